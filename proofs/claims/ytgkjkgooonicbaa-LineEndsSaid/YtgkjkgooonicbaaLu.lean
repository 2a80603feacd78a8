/- The walk of the statement LineOnce: what is got at one end is a beginning of what was put in at the other one. -/
import Derived.Test.YtgkjkgooonicbaaLy
import Derived.Test.YtgkjkgooonicbaaLz
namespace Go.Proofs.Ytgkjkgooonicbaa.Lm
open Go Go.RowKit Go.Proofs.Ytgkjkgooonicbaa Go.Proofs.Ytgkjkgooonicbaa.K Go.Proofs.Ytgkjkgooonicbaa.M Go.Proofs.Ytgkjkgooonicbaa.O Go.Proofs.Ytgkjkgooonicbaa.R

theorem All.take {B : Nat} {w : World} {l : List Itm} (h : All B w l) (k : Nat) : All B w (l.take k) := by
  have key : ∀ (i : Nat) (a : Itm), (l.take k)[i]? = some a → l[i]? = some a := fun i a ha => by
    rw [List.getElem?_take] at ha
    split at ha
    · exact ha
    · cases ha
  exact ⟨fun i a ha => h.hold i a (key i a ha), fun i a ha => h.base i a (key i a ha), fun i j hij a b ha hb => h.apart i j hij a b (key i a ha) (key j b hb), h.size⟩
/-- The same with the law's own arrays. -/
def PM.law (m : PM) (gx gy R9 R10 ES : Nat) : List Itm :=
  [endI m.F0 gx m.x, endI m.F1 gy m.y, rowI m.pv0 m.A0, rowI m.pv1 m.A1, rowI m.gv0 m.G0, rowI m.gv1 m.G1, pksI m.wv0 m.W0, pksI m.wv1 m.W1,
    blkI R9 #[m.pv0, m.pv1] 46 (by decide), blkI R10 #[m.gv0, m.gv1] 46 (by decide), blkI ES #[.pointer (some ⟨gx, 0, none⟩), .pointer (some ⟨gy, 0, none⟩)] 23 (by decide)]
theorem pm_law {B : Nat} {w : World} {m : PM} {gx gy Q8 Q9 Q11 Q12 : Nat} (h : All B w (m.lst gx gy Q8 Q9 Q11 Q12)) :
    All B (((w.alloc (.cells #[m.pv0, m.pv1] 46)).alloc (.cells #[m.gv0, m.gv1] 46)).alloc (.cells #[.pointer (some ⟨gx, 0, none⟩), .pointer (some ⟨gy, 0, none⟩)] 23)) (m.law gx gy w.heap.size (w.heap.size + 1) (w.heap.size + 2)) := by
  have h8 := h.take 8
  have a1 := h8.fresh (w' := w.alloc (.cells #[m.pv0, m.pv1] 46)) ((Upd.refl [] _).alloc _) (a := blkI w.heap.size #[m.pv0, m.pv1] 46 (by decide)) (blk_new w _) (fun s hs => by simp [blkI] at hs; omega)
  have a2 := a1.fresh (w' := (w.alloc (.cells #[m.pv0, m.pv1] 46)).alloc (.cells #[m.gv0, m.gv1] 46)) ((Upd.refl [] _).alloc _) (a := blkI (w.heap.size + 1) #[m.gv0, m.gv1] 46 (by decide)) (by have := blk_new (w.alloc (.cells #[m.pv0, m.pv1] 46)) (.cells #[m.gv0, m.gv1] 46); simpa [blkI] using this) (fun s hs => by simp [blkI] at hs; simp; omega)
  have a3 := a2.fresh (w' := ((w.alloc (.cells #[m.pv0, m.pv1] 46)).alloc (.cells #[m.gv0, m.gv1] 46)).alloc (.cells #[.pointer (some ⟨gx, 0, none⟩), .pointer (some ⟨gy, 0, none⟩)] 23)) ((Upd.refl [] _).alloc _) (a := blkI (w.heap.size + 2) #[.pointer (some ⟨gx, 0, none⟩), .pointer (some ⟨gy, 0, none⟩)] 23 (by decide)) (by have := blk_new ((w.alloc (.cells #[m.pv0, m.pv1] 46)).alloc (.cells #[m.gv0, m.gv1] 46)) (.cells #[.pointer (some ⟨gx, 0, none⟩), .pointer (some ⟨gy, 0, none⟩)] 23); simpa [blkI] using this) (fun s hs => by simp [blkI] at hs; simp; omega)
  exact a3

set_option maxHeartbeats 4000000 in
set_option maxRecDepth 100000 in
theorem once_walk (a0 b0 : Int) (a : Option Addr) (len cap : Nat) (xs : List Int) (w : World) (hx : IntRow w a xs) (hl : xs.length = len) (hlc : len ≤ cap) (hc : cap ≤ 9223372036854775807) :
    Calls Try.prog 5 #[.int .i64 a0, .int .i64 b0, .slice a len cap] w fun e w' => e = .returned (.bool true) ∧ Upd [] w w' := by
  obtain ⟨i29, hi29, hz29a, hz29b, hz29c⟩ := info_parts info29
  have HI29 := hid hi29
  have HA29 := hid hz29a
  have HB29 := hid hz29b
  have HC29 := hid hz29c
  have HX := hid hx
  have HL := hid hl
  clear hx hl hi29 hz29a hz29b hz29c
  go_enter Try.func5, Try.ntmps5
  go_wp2_with fail
  refine (begun_any w).mono ?_
  rintro e w1 ⟨rfl, hu⟩
  have U1 := hid hu
  clear hu
  go_wp2_with fail
  refine (played_any a0 b0 a len cap xs w1 (HX.out.upd U1.out) HL.out hlc hc).mono ?_
  rintro e w2 ⟨gx, gy, Q8, Q9, Q11, Q12, m, rfl, ha, hi, hf, hu⟩
  have al := pm_law ha
  have U2 := hid ((((U1.out.trans hu (fun t ht => by cases ht)).alloc (.cells #[m.pv0, m.pv1] 46)).alloc (.cells #[m.gv0, m.gv1] 46)).alloc (.cells #[.pointer (some ⟨gx, 0, none⟩), .pointer (some ⟨gy, 0, none⟩)] 23))
  have hB : w.heap.size ≤ w1.heap.size := U1.out.size
  obtain ⟨vs0, o0, -⟩ := ha.hold 2 _ rfl
  obtain ⟨vs1, o1, -⟩ := ha.hold 3 _ rfl
  obtain ⟨vs2, o2, -⟩ := ha.hold 4 _ rfl
  obtain ⟨vs3, o3, -⟩ := ha.hold 5 _ rfl
  obtain ⟨p0, q0, e0, -⟩ := own_view o0
  obtain ⟨p1, q1, e1, -⟩ := own_view o1
  obtain ⟨p2, q2, e2, -⟩ := own_view o2
  obtain ⟨p3, q3, e3, -⟩ := own_view o3
  have E0 := hid e0
  have E1 := hid e1
  have E2 := hid e2
  have E3 := hid e3
  have AL := hid al
  have HI := hid hi
  have HF : Hid (m.A0.length ≤ 300 ∧ m.A1.length ≤ 300) := hid ⟨hf.1, hf.2.1⟩
  rw [e0, e1, e2, e3]
  clear ha hi hf hu al o0 o1 o2 o3 e0 e1 e2 e3
  go_upto_region 6 with (fail)
  rw [← E0.out, ← E1.out, ← E2.out, ← E3.out]
  go_wp2_with fail
  obtain ⟨R9, hR9⟩ : ∃ R9, R9 = w2.heap.size := ⟨_, rfl⟩
  obtain ⟨R10, hR10⟩ : ∃ R10, R10 = R9 + 1 := ⟨_, rfl⟩
  obtain ⟨ES, hES⟩ : ∃ ES, ES = R10 + 1 := ⟨_, rfl⟩
  have AL2 : Hid (All w1.heap.size (((w2.alloc (.cells #[m.pv0, m.pv1] 46)).alloc (.cells #[m.gv0, m.gv1] 46)).alloc (.cells #[.pointer (some ⟨gx, 0, none⟩), .pointer (some ⟨gy, 0, none⟩)] 23)) (m.law gx gy R9 R10 ES)) := hid (by rw [hES, hR10, hR9]; exact AL.out)
  rw [← hR9, ← hR10, ← hES]
  clear hR9 hR10 hES AL E0 E1 E2 E3
  go_loopg [32] 2 (fun d v32 wr => ∃ (j : Nat) (m : PM), v32 = .int .i64 (j : Int) ∧ j ≤ 2 ∧ Hid (j + d = 2) ∧ Hid (All w1.heap.size wr (m.law gx gy R9 R10 ES)) ∧ Hid m.inv ∧ Hid (m.A0.length ≤ 300 ∧ m.A1.length ≤ 300) ∧ Hid (Upd [] w wr))
  case atStart => exact ⟨0, m, rfl, by omega, hid (by omega), AL2, HI, HF, U2⟩
  case round =>
    clear AL2 HI HF U2
    obtain ⟨j, m, rfl, hj2, Hd, HA, HI, HF, HU⟩ := hrel
    have cE := HA.out.hold 10 _ rfl
    have c11a : wr.cell? ⟨ES, 0, none⟩ = some (.pointer (some ⟨gx, 0, none⟩)) := (blk_cell cE 0).trans rfl
    have c11b : wr.cell? ⟨ES, 1, none⟩ = some (.pointer (some ⟨gy, 0, none⟩)) := (blk_cell cE 1).trans rfl
    clear cE
    have hj3 : j = 0 ∨ j = 1 ∨ j = 2 := by omega
    clear hj2
    rcases hj3 with rfl | rfl | rfl
    · have HAN : Hid (∀ k, All w1.heap.size (wr.drewN k) (m.law gx gy R9 R10 ES)) := hid (fun k => HA.out.new ((Upd.refl [] wr).drewN k))
      go_upto_region 9 with (fail)
      clear c11a c11b
      go_cut [] from 37 to 44 (fun wx => ∃ m2 : PM, All w1.heap.size wx (m2.law gx gy R9 R10 ES) ∧ m2.inv ∧ m2.x.read = [] ∧ (m2.A0.length ≤ 300 ∧ m2.A1.length ≤ 300) ∧ Upd [] w wx)
      case first =>
        refine J.J_begin (fun wz => wz.cell? ⟨R10, 0, none⟩ = some m.gv0) 8 (by kernel_rfl) ⟨by kernel_rfl, by kernel_rfl, by kernel_rfl⟩ ((blk_cell ((HAN.out 1).hold 9 _ rfl) 0).trans rfl) (fun LAST HS => ?_)
        refine J.J_take (i := 0) (v := ?_) LAST (by rfl) (by decide) (by kernel_rfl) (by kernel_rfl) (by intro _ _ _ h; exact h) HS (Or.inl ⟨by rfl, ?_⟩) ?_
        rotate_left
        · intro w hSw; (try dsimp only at hSw); go_simp; try with_reducible rfl
        try simp only [Act.put, List.setIfInBounds_toArray, List.set_cons_zero, List.set_cons_succ]
        refine J.J_take (i := 1) (v := ?_) LAST (by rfl) (by decide) (by kernel_rfl) (by kernel_rfl) (by intro _ _ _ h; exact h) HS (Or.inl ⟨by rfl, ?_⟩) ?_
        rotate_left
        · intro w hSw; (try dsimp only at hSw); go_simp; try with_reducible rfl
        try simp only [Act.put, List.setIfInBounds_toArray, List.set_cons_zero, List.set_cons_succ]
        refine J.J_take (i := 2) (v := ?_) LAST (by rfl) (by decide) (by kernel_rfl) (by kernel_rfl) (by intro _ _ _ h; exact h) HS (Or.inl ⟨by rfl, ?_⟩) ?_
        rotate_left
        · intro w hSw; (try dsimp only at hSw); go_simp; try with_reducible rfl
        try simp only [Act.put, List.setIfInBounds_toArray, List.set_cons_zero, List.set_cons_succ]
        refine J.J_take (i := 3) (v := ?_) LAST (by rfl) (by decide) (by kernel_rfl) (by kernel_rfl) (by intro _ _ _ h; exact h) HS (Or.inl ⟨by rfl, ?_⟩) ?_
        rotate_left
        · intro w hSw; (try dsimp only at hSw); go_simp; try with_reducible rfl
        try simp only [Act.put, List.setIfInBounds_toArray, List.set_cons_zero, List.set_cons_succ]
        refine J.J_take (i := 4) (v := ?_) LAST (by rfl) (by decide) (by kernel_rfl) (by kernel_rfl) (by intro _ _ _ h; exact h) HS (Or.inl ⟨by rfl, ?_⟩) ?_
        rotate_left
        · intro w hSw; (try dsimp only at hSw); go_simp; try with_reducible rfl
        try simp only [Act.put, List.setIfInBounds_toArray, List.set_cons_zero, List.set_cons_succ]
        refine J.J_one (i := 5) (by rfl) (by decide) (by kernel_rfl) (fun KK hK => ?_)
        go_simp
        refine (a_got (HAN.out 1) (i := 0) rfl).mono ?_
        rintro e w4 ⟨F', v, rs, rfl, ow, bs, ha, hu⟩
        have HA4 := hid ha
        have HU4 := hid (All.after (HU.out.drewN 1) (HAN.out 1) (i := 0) rfl hu hB)
        obtain ⟨gs, og, bg⟩ := ha.hold 4 _ rfl
        obtain ⟨ng, hng⟩ : ∃ ng, ng = m.G0.length := ⟨_, rfl⟩
        obtain ⟨nr, hnr⟩ : ∃ nr, nr = m.x.read.length := ⟨_, rfl⟩
        have OG : Hid (w4.ownsRow 0 29 1 m.gv0 ng gs) := hid (by rw [hng]; exact og)
        have OR : Hid (w4.ownsRow 0 29 1 v nr rs) := hid (by rw [hnr]; exact ow)
        have BG := hid bg
        have BR := hid bs
        have HNG := hid hng
        have HNR := hid hnr
        have hlen : ng + nr ≤ 300 := by
          obtain ⟨f1, f2⟩ := HF.out
          have h1 := congrArg List.length (HI.out.yx.got)
          simp only [List.length_append, List.length_take] at h1
          omega
        have HS1 : w4.cell? ⟨R10, 0, none⟩ = some m.gv0 := (blk_cell (ha.hold 9 _ rfl) 0).trans rfl
        obtain ⟨va, vk, ev, -⟩ := own_view OR.out
        subst ev
        clear ha hu ow bs og bg hng hnr
        go_wp2_with fail
        refine hK.out _ _ HS1 ?_
        clear hK KK HS
        try simp only [List.setIfInBounds_toArray]
        refine J.J_one (i := 6) (by rfl) (by decide) (by kernel_rfl) (fun KK hK => ?_)
        refine step_app_row rfl (.tmp 40) (.tmp 42) 37 rfl 29 i29 _ 1 24 Try.underlying37 HI29.out HA29.out HB29.out HC29.out rfl (by decide) m.gv0 ng gs (by rfl) OG.out (.slice va nr vk) nr 0 rs (by rfl) OR.out BR.out.ones (by unfold maxLen; omega) (by omega) ?_
        intro v5 w5 ho hu5 hl5
        obtain ⟨a5, k5, e5, -⟩ := own_view ho
        subst e5
        have HU5 := hid hu5
        have al5 := HA4.out.set (i := 4) (a' := rowI (.slice a5 (ng + nr) k5) (m.G0 ++ m.x.read)) rfl hu5 ⟨_, by rw [List.length_append, ← HNG.out, ← HNR.out]; exact ho, (BG.out.upd hu5 (fun s hs => Itm.nob _ (HA4.out.hold 4 _ rfl) s hs)).append (BR.out.upd hu5 (fun s hs => Itm.nob _ (HA4.out.hold 4 _ rfl) s hs))⟩ (fun s hs => (hl5 s (by simpa [rowI] using hs)).imp (fun q => by simpa [rowI] using q) id)
        have AL5 := hid al5
        have c9 := al5.hold 9 _ rfl
        have HS5 : w5.cell? ⟨R10, 0, none⟩ = some m.gv0 := (blk_cell c9 0).trans rfl
        have c9f := blk_frozen c9
        clear ho hu5 hl5 al5 c9
        refine hK.out _ _ HS5 ?_
        clear hK KK HS1
        try simp only [Act.put, List.setIfInBounds_toArray, List.set_cons_zero, List.set_cons_succ]
        refine J.J_take (i := 7) (v := ?_) LAST (by rfl) (by decide) (by kernel_rfl) (by kernel_rfl) (by intro _ _ _ h; exact h) HS5 (Or.inl ⟨by rfl, ?_⟩) ?_
        rotate_left
        · intro w hSw; (try dsimp only at hSw); go_simp; try with_reducible rfl
        try simp only [Act.put, List.setIfInBounds_toArray, List.set_cons_zero, List.set_cons_succ]
        refine J.J_last (by rfl) (by kernel_rfl) (by kernel_rfl) ?_
        go_simp
        go_wp2_with fail
        go_meet
        have u6 : Upd [R10] w5 (w5.setCell ⟨R10, 0, none⟩ (.slice a5 (ng + nr) k5)) := (Upd.refl _ _).setCell (.inl (by simp)) _
        have A6 := AL5.out.set (i := 9) (a' := blkI R10 #[.slice a5 (ng + nr) k5, m.gv1] 46 (by decide)) rfl u6 (blk_set (AL5.out.hold 9 _ rfl) 0 _) (Fresh.refl _ _)
        exact ⟨{ m with F0 := F', x := egot m.x, gv0 := .slice a5 (ng + nr) k5, G0 := m.G0 ++ m.x.read }, A6, HI.out.gotten, rfl, HF.out, All.after (All.after HU4.out HA4.out (i := 4) rfl HU5.out hB) AL5.out (i := 9) rfl u6 hB⟩
      obtain ⟨m2, ha, hi, hrd, hf, hu⟩ := hcut
      have HA2 := hid ha
      have HI2 := hid hi
      have HF2 := hid hf
      have HU2 := hid hu
      have HRD := hid hrd
      clear ha hi hf hu hrd HAN HA HI HF HU
      have HAN : Hid (∀ k, All w1.heap.size (wc.drewN k) (m2.law gx gy R9 R10 ES)) := hid (fun k => HA2.out.new ((Upd.refl [] wc).drewN k))
      go_upto_region 10 with (fail)
      have hw1 : IntKind.i64.wrap 1 = 1 := by decide
      have hw0 : IntKind.i64.wrap 0 = 0 := by decide
      refine J.J_begin (fun wz => wz.cell? ⟨R10, 0, none⟩ = some m2.gv0 ∧ wz.cell? ⟨R9, 1, none⟩ = some m2.pv1) 8 (by kernel_rfl) ⟨by kernel_rfl, by kernel_rfl, by kernel_rfl⟩ ⟨(blk_cell ((HAN.out 1).hold 9 _ rfl) 0).trans rfl, (blk_cell ((HAN.out 1).hold 8 _ rfl) 1).trans rfl⟩ (fun LAST HS => ?_)
      refine J.J_take (i := 0) (v := ?_) LAST (by rfl) (by decide) (by kernel_rfl) (by kernel_rfl) (by intro _ _ _ h; exact h) HS (Or.inl ⟨by rfl, ?_⟩) ?_
      rotate_left
      · intro w hSw; (try dsimp only at hSw); go_simp; try with_reducible rfl
      try simp only [Act.put, List.setIfInBounds_toArray, List.set_cons_zero, List.set_cons_succ]
      refine J.J_take (i := 1) (v := ?_) LAST (by rfl) (by decide) (by kernel_rfl) (by kernel_rfl) (by intro _ _ _ h; exact h) HS (Or.inl ⟨by rfl, ?_⟩) ?_
      rotate_left
      · intro w hSw; (try dsimp only at hSw); go_simp; try with_reducible rfl
      try simp only [Act.put, List.setIfInBounds_toArray, List.set_cons_zero, List.set_cons_succ]
      refine J.J_take (i := 2) (v := ?_) LAST (by rfl) (by decide) (by kernel_rfl) (by kernel_rfl) (by intro _ _ _ h; exact h) HS (Or.inl ⟨by rfl, ?_⟩) ?_
      rotate_left
      · intro w hSw; (try dsimp only at hSw); go_simp; try with_reducible rfl
      try simp only [Act.put, List.setIfInBounds_toArray, List.set_cons_zero, List.set_cons_succ]
      refine J.J_take (i := 3) (v := ?_) LAST (by rfl) (by decide) (by kernel_rfl) (by kernel_rfl) (by intro _ _ _ h; exact h) HS (Or.inl ⟨by rfl, ?_⟩) ?_
      rotate_left
      · intro w hSw; (try dsimp only at hSw); go_simp; try with_reducible rfl
      try simp only [Act.put, List.setIfInBounds_toArray, List.set_cons_zero, List.set_cons_succ]
      refine J.J_take (i := 4) (v := ?_) LAST (by rfl) (by decide) (by kernel_rfl) (by kernel_rfl) (by intro _ _ _ h; exact h) HS (Or.inl ⟨by rfl, ?_⟩) ?_
      rotate_left
      · intro w hSw; (try dsimp only at hSw); go_simp; try with_reducible rfl
      try simp only [Act.put, List.setIfInBounds_toArray, List.set_cons_zero, List.set_cons_succ]
      refine J.J_take (i := 5) (v := ?_) LAST (by rfl) (by decide) (by kernel_rfl) (by kernel_rfl) (by intro _ _ _ h; exact h) HS (Or.inl ⟨by rfl, ?_⟩) ?_
      rotate_left
      · intro w hSw; (try dsimp only at hSw); go_simp; try with_reducible rfl
      try simp only [Act.put, List.setIfInBounds_toArray, List.set_cons_zero, List.set_cons_succ]
      refine J.J_take (i := 6) (v := ?_) LAST (by rfl) (by decide) (by kernel_rfl) (by kernel_rfl) (by intro _ _ _ h; exact h) HS (Or.inl ⟨by rfl, ?_⟩) ?_
      rotate_left
      · intro w hSw; (try dsimp only at hSw); go_simp; try with_reducible rfl
      try simp only [Act.put, List.setIfInBounds_toArray, List.set_cons_zero, List.set_cons_succ]
      obtain ⟨gs, og, bg⟩ := (HAN.out 1).hold 4 _ rfl
      obtain ⟨ps, op, bp⟩ := (HAN.out 1).hold 3 _ rfl
      have hgot : m2.G0 = m2.A1.take m2.x.want := by
        have h1 := HI2.out.yx.got
        rw [HRD.out, List.append_nil] at h1
        exact h1
      have FR := hid (front_any og op bg bp _ hgot (by obtain ⟨f1, f2⟩ := HF2.out; omega))
      clear og op bg bp hgot hw0 hw1
      refine J.J_one (i := 7) (by rfl) (by decide) (by kernel_rfl) (fun KK hK => ?_)
      go_simp
      refine FR.out.mono ?_
      rintro e w4 ⟨rfl, rfl⟩
      go_wp2_with fail
      refine hK.out _ _ HS ?_
      clear hK KK
      try simp only [List.setIfInBounds_toArray]
      refine J.J_last (by rfl) (by kernel_rfl) (by kernel_rfl) ?_
      go_simp
      go_wp2_with fail
      go_roundg 1
      case measure => have := Hd.out; omega
      case rel => exact ⟨0 + 1, m2, by go_num, by omega, hid (by omega), HAN.out 1, HI2, HF2, hid (HU2.out.drewN 1)⟩
    · have HAN : Hid (∀ k, All w1.heap.size (wr.drewN k) (m.law gx gy R9 R10 ES)) := hid (fun k => HA.out.new ((Upd.refl [] wr).drewN k))
      go_upto_region 9 with (fail)
      clear c11a c11b
      go_cut [] from 37 to 44 (fun wx => ∃ m2 : PM, All w1.heap.size wx (m2.law gx gy R9 R10 ES) ∧ m2.inv ∧ m2.y.read = [] ∧ (m2.A0.length ≤ 300 ∧ m2.A1.length ≤ 300) ∧ Upd [] w wx)
      case first =>
        refine J.J_begin (fun wz => wz.cell? ⟨R10, 1, none⟩ = some m.gv1) 8 (by kernel_rfl) ⟨by kernel_rfl, by kernel_rfl, by kernel_rfl⟩ ((blk_cell ((HAN.out 1).hold 9 _ rfl) 1).trans rfl) (fun LAST HS => ?_)
        refine J.J_take (i := 0) (v := ?_) LAST (by rfl) (by decide) (by kernel_rfl) (by kernel_rfl) (by intro _ _ _ h; exact h) HS (Or.inl ⟨by rfl, ?_⟩) ?_
        rotate_left
        · intro w hSw; (try dsimp only at hSw); go_simp; try with_reducible rfl
        try simp only [Act.put, List.setIfInBounds_toArray, List.set_cons_zero, List.set_cons_succ]
        refine J.J_take (i := 1) (v := ?_) LAST (by rfl) (by decide) (by kernel_rfl) (by kernel_rfl) (by intro _ _ _ h; exact h) HS (Or.inl ⟨by rfl, ?_⟩) ?_
        rotate_left
        · intro w hSw; (try dsimp only at hSw); go_simp; try with_reducible rfl
        try simp only [Act.put, List.setIfInBounds_toArray, List.set_cons_zero, List.set_cons_succ]
        refine J.J_take (i := 2) (v := ?_) LAST (by rfl) (by decide) (by kernel_rfl) (by kernel_rfl) (by intro _ _ _ h; exact h) HS (Or.inl ⟨by rfl, ?_⟩) ?_
        rotate_left
        · intro w hSw; (try dsimp only at hSw); go_simp; try with_reducible rfl
        try simp only [Act.put, List.setIfInBounds_toArray, List.set_cons_zero, List.set_cons_succ]
        refine J.J_take (i := 3) (v := ?_) LAST (by rfl) (by decide) (by kernel_rfl) (by kernel_rfl) (by intro _ _ _ h; exact h) HS (Or.inl ⟨by rfl, ?_⟩) ?_
        rotate_left
        · intro w hSw; (try dsimp only at hSw); go_simp; try with_reducible rfl
        try simp only [Act.put, List.setIfInBounds_toArray, List.set_cons_zero, List.set_cons_succ]
        refine J.J_take (i := 4) (v := ?_) LAST (by rfl) (by decide) (by kernel_rfl) (by kernel_rfl) (by intro _ _ _ h; exact h) HS (Or.inl ⟨by rfl, ?_⟩) ?_
        rotate_left
        · intro w hSw; (try dsimp only at hSw); go_simp; try with_reducible rfl
        try simp only [Act.put, List.setIfInBounds_toArray, List.set_cons_zero, List.set_cons_succ]
        refine J.J_one (i := 5) (by rfl) (by decide) (by kernel_rfl) (fun KK hK => ?_)
        go_simp
        refine (a_got (HAN.out 1) (i := 1) rfl).mono ?_
        rintro e w4 ⟨F', v, rs, rfl, ow, bs, ha, hu⟩
        have HA4 := hid ha
        have HU4 := hid (All.after (HU.out.drewN 1) (HAN.out 1) (i := 1) rfl hu hB)
        obtain ⟨gs, og, bg⟩ := ha.hold 5 _ rfl
        obtain ⟨ng, hng⟩ : ∃ ng, ng = m.G1.length := ⟨_, rfl⟩
        obtain ⟨nr, hnr⟩ : ∃ nr, nr = m.y.read.length := ⟨_, rfl⟩
        have OG : Hid (w4.ownsRow 0 29 1 m.gv1 ng gs) := hid (by rw [hng]; exact og)
        have OR : Hid (w4.ownsRow 0 29 1 v nr rs) := hid (by rw [hnr]; exact ow)
        have BG := hid bg
        have BR := hid bs
        have HNG := hid hng
        have HNR := hid hnr
        have hlen : ng + nr ≤ 300 := by
          obtain ⟨f1, f2⟩ := HF.out
          have h1 := congrArg List.length (HI.out.swap.yx.got)
          simp only [List.length_append, List.length_take] at h1
          omega
        have HS1 : w4.cell? ⟨R10, 1, none⟩ = some m.gv1 := (blk_cell (ha.hold 9 _ rfl) 1).trans rfl
        obtain ⟨va, vk, ev, -⟩ := own_view OR.out
        subst ev
        clear ha hu ow bs og bg hng hnr
        go_wp2_with fail
        refine hK.out _ _ HS1 ?_
        clear hK KK HS
        try simp only [List.setIfInBounds_toArray]
        refine J.J_one (i := 6) (by rfl) (by decide) (by kernel_rfl) (fun KK hK => ?_)
        refine step_app_row rfl (.tmp 40) (.tmp 42) 37 rfl 29 i29 _ 1 24 Try.underlying37 HI29.out HA29.out HB29.out HC29.out rfl (by decide) m.gv1 ng gs (by rfl) OG.out (.slice va nr vk) nr 0 rs (by rfl) OR.out BR.out.ones (by unfold maxLen; omega) (by omega) ?_
        intro v5 w5 ho hu5 hl5
        obtain ⟨a5, k5, e5, -⟩ := own_view ho
        subst e5
        have HU5 := hid hu5
        have al5 := HA4.out.set (i := 5) (a' := rowI (.slice a5 (ng + nr) k5) (m.G1 ++ m.y.read)) rfl hu5 ⟨_, by rw [List.length_append, ← HNG.out, ← HNR.out]; exact ho, (BG.out.upd hu5 (fun s hs => Itm.nob _ (HA4.out.hold 5 _ rfl) s hs)).append (BR.out.upd hu5 (fun s hs => Itm.nob _ (HA4.out.hold 5 _ rfl) s hs))⟩ (fun s hs => (hl5 s (by simpa [rowI] using hs)).imp (fun q => by simpa [rowI] using q) id)
        have AL5 := hid al5
        have c9 := al5.hold 9 _ rfl
        have HS5 : w5.cell? ⟨R10, 1, none⟩ = some m.gv1 := (blk_cell c9 1).trans rfl
        have c9f := blk_frozen c9
        clear ho hu5 hl5 al5 c9
        refine hK.out _ _ HS5 ?_
        clear hK KK HS1
        try simp only [Act.put, List.setIfInBounds_toArray, List.set_cons_zero, List.set_cons_succ]
        refine J.J_take (i := 7) (v := ?_) LAST (by rfl) (by decide) (by kernel_rfl) (by kernel_rfl) (by intro _ _ _ h; exact h) HS5 (Or.inl ⟨by rfl, ?_⟩) ?_
        rotate_left
        · intro w hSw; (try dsimp only at hSw); go_simp; try with_reducible rfl
        try simp only [Act.put, List.setIfInBounds_toArray, List.set_cons_zero, List.set_cons_succ]
        refine J.J_last (by rfl) (by kernel_rfl) (by kernel_rfl) ?_
        go_simp
        go_wp2_with fail
        go_meet
        have u6 : Upd [R10] w5 (w5.setCell ⟨R10, 1, none⟩ (.slice a5 (ng + nr) k5)) := (Upd.refl _ _).setCell (.inl (by simp)) _
        have A6 := AL5.out.set (i := 9) (a' := blkI R10 #[m.gv0, .slice a5 (ng + nr) k5] 46 (by decide)) rfl u6 (blk_set (AL5.out.hold 9 _ rfl) 1 _) (Fresh.refl _ _)
        exact ⟨{ m with F1 := F', y := egot m.y, gv1 := .slice a5 (ng + nr) k5, G1 := m.G1 ++ m.y.read }, A6, HI.out.swap.gotten.swap, rfl, HF.out, All.after (All.after HU4.out HA4.out (i := 5) rfl HU5.out hB) AL5.out (i := 9) rfl u6 hB⟩
      obtain ⟨m2, ha, hi, hrd, hf, hu⟩ := hcut
      have HA2 := hid ha
      have HI2 := hid hi
      have HF2 := hid hf
      have HU2 := hid hu
      have HRD := hid hrd
      clear ha hi hf hu hrd HAN HA HI HF HU
      have HAN : Hid (∀ k, All w1.heap.size (wc.drewN k) (m2.law gx gy R9 R10 ES)) := hid (fun k => HA2.out.new ((Upd.refl [] wc).drewN k))
      go_upto_region 10 with (fail)
      have hw1 : IntKind.i64.wrap 1 = 1 := by decide
      have hw0 : IntKind.i64.wrap 0 = 0 := by decide
      refine J.J_begin (fun wz => wz.cell? ⟨R10, 1, none⟩ = some m2.gv1 ∧ wz.cell? ⟨R9, 0, none⟩ = some m2.pv0) 8 (by kernel_rfl) ⟨by kernel_rfl, by kernel_rfl, by kernel_rfl⟩ ⟨(blk_cell ((HAN.out 1).hold 9 _ rfl) 1).trans rfl, (blk_cell ((HAN.out 1).hold 8 _ rfl) 0).trans rfl⟩ (fun LAST HS => ?_)
      refine J.J_take (i := 0) (v := ?_) LAST (by rfl) (by decide) (by kernel_rfl) (by kernel_rfl) (by intro _ _ _ h; exact h) HS (Or.inl ⟨by rfl, ?_⟩) ?_
      rotate_left
      · intro w hSw; (try dsimp only at hSw); go_simp; try with_reducible rfl
      try simp only [Act.put, List.setIfInBounds_toArray, List.set_cons_zero, List.set_cons_succ]
      refine J.J_take (i := 1) (v := ?_) LAST (by rfl) (by decide) (by kernel_rfl) (by kernel_rfl) (by intro _ _ _ h; exact h) HS (Or.inl ⟨by rfl, ?_⟩) ?_
      rotate_left
      · intro w hSw; (try dsimp only at hSw); go_simp; try with_reducible rfl
      try simp only [Act.put, List.setIfInBounds_toArray, List.set_cons_zero, List.set_cons_succ]
      refine J.J_take (i := 2) (v := ?_) LAST (by rfl) (by decide) (by kernel_rfl) (by kernel_rfl) (by intro _ _ _ h; exact h) HS (Or.inl ⟨by rfl, ?_⟩) ?_
      rotate_left
      · intro w hSw; (try dsimp only at hSw); go_simp; try with_reducible rfl
      try simp only [Act.put, List.setIfInBounds_toArray, List.set_cons_zero, List.set_cons_succ]
      refine J.J_take (i := 3) (v := ?_) LAST (by rfl) (by decide) (by kernel_rfl) (by kernel_rfl) (by intro _ _ _ h; exact h) HS (Or.inl ⟨by rfl, ?_⟩) ?_
      rotate_left
      · intro w hSw; (try dsimp only at hSw); go_simp; try with_reducible rfl
      try simp only [Act.put, List.setIfInBounds_toArray, List.set_cons_zero, List.set_cons_succ]
      refine J.J_take (i := 4) (v := ?_) LAST (by rfl) (by decide) (by kernel_rfl) (by kernel_rfl) (by intro _ _ _ h; exact h) HS (Or.inl ⟨by rfl, ?_⟩) ?_
      rotate_left
      · intro w hSw; (try dsimp only at hSw); go_simp; try with_reducible rfl
      try simp only [Act.put, List.setIfInBounds_toArray, List.set_cons_zero, List.set_cons_succ]
      refine J.J_take (i := 5) (v := ?_) LAST (by rfl) (by decide) (by kernel_rfl) (by kernel_rfl) (by intro _ _ _ h; exact h) HS (Or.inl ⟨by rfl, ?_⟩) ?_
      rotate_left
      · intro w hSw; (try dsimp only at hSw); go_simp; try with_reducible rfl
      try simp only [Act.put, List.setIfInBounds_toArray, List.set_cons_zero, List.set_cons_succ]
      refine J.J_take (i := 6) (v := ?_) LAST (by rfl) (by decide) (by kernel_rfl) (by kernel_rfl) (by intro _ _ _ h; exact h) HS (Or.inl ⟨by rfl, ?_⟩) ?_
      rotate_left
      · intro w hSw; (try dsimp only at hSw); go_simp; try with_reducible rfl
      try simp only [Act.put, List.setIfInBounds_toArray, List.set_cons_zero, List.set_cons_succ]
      obtain ⟨gs, og, bg⟩ := (HAN.out 1).hold 5 _ rfl
      obtain ⟨ps, op, bp⟩ := (HAN.out 1).hold 2 _ rfl
      have hgot : m2.G1 = m2.A0.take m2.y.want := by
        have h1 := HI2.out.swap.yx.got
        rw [HRD.out, List.append_nil] at h1
        exact h1
      have FR := hid (front_any og op bg bp _ hgot (by obtain ⟨f1, f2⟩ := HF2.out; omega))
      clear og op bg bp hgot hw0 hw1
      refine J.J_one (i := 7) (by rfl) (by decide) (by kernel_rfl) (fun KK hK => ?_)
      go_simp
      refine FR.out.mono ?_
      rintro e w4 ⟨rfl, rfl⟩
      go_wp2_with fail
      refine hK.out _ _ HS ?_
      clear hK KK
      try simp only [List.setIfInBounds_toArray]
      refine J.J_last (by rfl) (by kernel_rfl) (by kernel_rfl) ?_
      go_simp
      go_wp2_with fail
      go_roundg 0
      case measure => have := Hd.out; omega
      case rel => exact ⟨1 + 1, m2, by go_num, by omega, hid (by omega), HAN.out 1, HI2, HF2, hid (HU2.out.drewN 1)⟩
    · go_wp2_with fail
      go_ret
      exact ⟨rfl, HU.out⟩
end Go.Proofs.Ytgkjkgooonicbaa.Lm
