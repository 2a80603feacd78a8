/- The walk of the statement LineEnds: once a few packets come, all that was put in is got, and nothing waits for an answer. -/
import Derived.Test.YtgkjkgooonicbaaLu
import Derived.Test.YtgkjkgooonicbaaLv
namespace Go.Proofs.Ytgkjkgooonicbaa.Lm
open Go Go.RowKit Go.Proofs.Ytgkjkgooonicbaa Go.Proofs.Ytgkjkgooonicbaa.K Go.Proofs.Ytgkjkgooonicbaa.M Go.Proofs.Ytgkjkgooonicbaa.O Go.Proofs.Ytgkjkgooonicbaa.R

theorem eqf_own {w : World} {B B' n : Nat} {v u : Value} {A : List (List Nat)} {vs us : List Value} (hn : n = A.length) (hv : w.ownsRow B 29 1 v n vs) (hu : w.ownsRow B' 29 1 u n us) (bv : Bodies w vs A) (bu : Bodies w us A) (h : n ≤ 1000) :
    Calls Try.prog 24 #[v, u, .func (.func 21) #[] #[]] w fun e w' => e = .returned (.bool true) ∧ w' = w := by
  obtain ⟨a, k, rfl, -⟩ := own_view hv
  obtain ⟨b, k', rfl, -⟩ := own_view hu
  exact eqf_any a b n k k' A vs us w hn h (Elems.of_own hv) (Elems.of_own hu) bv (by rw [List.take_of_length_le (by have := bu.1; omega)]; exact bu)
/-- Out, its packets kept as a thing of their own. -/
theorem a_out2 {B : Nat} {w : World} {l : List Itm} {g i : Nat} {F : List Nat} {e : E} (h : All B w l) (hi : l[i]? = some (endI F g e)) (ok : e.Ok) :
    Calls Try.prog 17 #[.pointer (some ⟨g, 0, none⟩)] w fun r w' => ∃ v, r = .returned v ∧ All B w' (l.set i (endI F g e.outE) ++ [pksI v e.out]) ∧ Upd F w w' := by
  refine (a_out h hi ok).mono ?_
  rintro r w' ⟨v, rfl, ⟨us, k1, k2⟩, k3, k4⟩
  refine ⟨v, rfl, k3.snoc (a := pksI v e.out) ⟨us, own_mono k1 (Nat.zero_le _), k2⟩ (fun s hs => Nat.le_trans h.size (own_ge k1 s (by simpa [pksI] using hs))) (fun j b hb s hs hs2 => ?_), k4⟩
  have h1 : w.heap.size ≤ s := own_ge k1 s (by simpa [pksI] using hs)
  have h2 : s < w.heap.size := by
    by_cases q : j = i
    · subst q
      rw [List.getElem?_set_self (List.getElem?_eq_some_iff.1 hi).1] at hb
      cases hb
      exact (endI F g e).lt (h.hold j _ hi) s hs2
    · rw [List.getElem?_set_ne (fun z => q z.symm)] at hb
      exact b.lt (h.hold j b hb) s hs2
  omega
def PM.law10 (m : PM) (gx gy R9 R10 : Nat) : List Itm :=
  [endI m.F0 gx m.x, endI m.F1 gy m.y, rowI m.pv0 m.A0, rowI m.pv1 m.A1, rowI m.gv0 m.G0, rowI m.gv1 m.G1, pksI m.wv0 m.W0, pksI m.wv1 m.W1,
    blkI R9 #[m.pv0, m.pv1] 46 (by decide), blkI R10 #[m.gv0, m.gv1] 46 (by decide)]
theorem pm_law10 {B : Nat} {w : World} {m : PM} {gx gy Q8 Q9 Q11 Q12 : Nat} (h : All B w (m.lst gx gy Q8 Q9 Q11 Q12)) :
    All B ((w.alloc (.cells #[m.pv0, m.pv1] 46)).alloc (.cells #[m.gv0, m.gv1] 46)) (m.law10 gx gy w.heap.size (w.heap.size + 1)) := by
  have h8 := h.take 8
  have a1 := h8.fresh (w' := w.alloc (.cells #[m.pv0, m.pv1] 46)) ((Upd.refl [] _).alloc _) (a := blkI w.heap.size #[m.pv0, m.pv1] 46 (by decide)) (blk_new w _) (fun s hs => by simp [blkI] at hs; omega)
  exact a1.fresh (w' := (w.alloc (.cells #[m.pv0, m.pv1] 46)).alloc (.cells #[m.gv0, m.gv1] 46)) ((Upd.refl [] _).alloc _) (a := blkI (w.heap.size + 1) #[m.gv0, m.gv1] 46 (by decide)) (by have := blk_new (w.alloc (.cells #[m.pv0, m.pv1] 46)) (.cells #[m.gv0, m.gv1] 46); simpa [blkI] using this) (fun s hs => by simp [blkI] at hs; simp; omega)
theorem law11 {B : Nat} {w : World} {m : PM} {gx gy R9 R10 : Nat} (h : All B w (m.law10 gx gy R9 R10)) : All B (w.alloc (.cells #[.pointer (some ⟨gx, 0, none⟩), .pointer (some ⟨gy, 0, none⟩)] 23)) (m.law gx gy R9 R10 w.heap.size) :=
  h.fresh (w' := w.alloc (.cells #[.pointer (some ⟨gx, 0, none⟩), .pointer (some ⟨gy, 0, none⟩)] 23)) ((Upd.refl [] _).alloc _) (a := blkI w.heap.size #[.pointer (some ⟨gx, 0, none⟩), .pointer (some ⟨gy, 0, none⟩)] 23 (by decide)) (blk_new w _) (fun s hs => by simp [blkI] at hs; omega)

/-- The state ahead of round k. -/
def Q5 (k : Nat) (x y : E) (A C G H : List (List Nat)) : Prop := (k = 0 → Inv x y A C G H [] []) ∧ (1 ≤ k → Rnd x y A C G H k)
theorem Q5.inv {k : Nat} {x y : E} {A C G H : List (List Nat)} (h : Q5 k x y A C G H) : Inv x y A C G H [] [] := by
  by_cases q : k = 0
  · exact h.1 q
  · exact (h.2 (by omega)).inv
/-- The state within round k: ahead of x's turn, ahead of y's turn, behind both. -/
def Sr (k i : Nat) (x y : E) (A C G H : List (List Nat)) : Prop :=
  (i = 0 → Q5 k x y A C G H) ∧ (i = 1 → ∃ x0 y0 G0, Q5 k x0 y0 A C G0 H ∧ x = x0.ready.outE ∧ y = x0.ready.out.foldl E.come y0 ∧ G = G0 ++ x0.read) ∧ (i = 2 → Q5 (k + 1) x y A C G H)
theorem Sr.inv {k i : Nat} {x y : E} {A C G H : List (List Nat)} (h : Sr k i x y A C G H) (hi : i ≤ 2) : Inv x y A C G H [] [] := by
  have : i = 0 ∨ i = 1 ∨ i = 2 := by omega
  rcases this with rfl | rfl | rfl
  · exact (h.1 rfl).inv
  · obtain ⟨x0, y0, G0, h1, rfl, rfl, rfl⟩ := h.2.1 rfl
    obtain ⟨_, rfl, h2, _⟩ := turn h1.inv
    exact h2
  · exact (h.2.2 rfl).inv
theorem Sr.first {k : Nat} {x y : E} {A C G H : List (List Nat)} (h : Sr k 0 x y A C G H) : Sr k 1 x.ready.outE (x.ready.out.foldl E.come y) A C (G ++ x.read) H :=
  ⟨fun q => (by cases q), fun _ => ⟨x, y, G, h.1 rfl, rfl, rfl, rfl⟩, fun q => (by cases q)⟩
theorem Sr.second {k : Nat} {x y : E} {A C G H : List (List Nat)} (h : Sr k 1 x y A C G H) : Sr k 2 (y.ready.out.foldl E.come x) y.ready.outE A C G (H ++ y.read) := by
  obtain ⟨x0, y0, G0, h1, rfl, rfl, rfl⟩ := h.2.1 rfl
  refine ⟨fun q => (by cases q), fun q => (by cases q), fun _ => ⟨fun q => (by cases q), fun _ => ?_⟩⟩
  by_cases q : k = 0
  · subst q; exact round_first (h1.1 rfl)
  · exact round_next (h1.2 (by omega))
theorem take_fold (l : List Pk) (e : E) (j : Nat) (h : j < l.length) : (l.take (j + 1)).foldl E.come e = ((l.take j).foldl E.come e).come (l.getD j noPk) := by
  rw [List.take_add_one, List.foldl_append, List.getD_eq_getElem?_getD, List.getElem?_eq_getElem h]
  rfl

set_option maxHeartbeats 8000000 in
set_option maxRecDepth 100000 in
theorem ends_walk (a0 b0 : Int) (a : Option Addr) (len cap : Nat) (xs : List Int) (w : World) (hx : IntRow w a xs) (hl : xs.length = len) (hlc : len ≤ cap) (hc : cap ≤ 9223372036854775807) :
    Calls Try.prog 6 #[.int .i64 a0, .int .i64 b0, .slice a len cap] w fun e w' => e = .returned (.bool true) ∧ Upd [] w w' := by
  obtain ⟨i29, hi29, hz29a, hz29b, hz29c⟩ := info_parts info29
  have HI29 := hid hi29
  have HA29 := hid hz29a
  have HB29 := hid hz29b
  have HC29 := hid hz29c
  have HX := hid hx
  have HL := hid hl
  clear hx hl hi29 hz29a hz29b hz29c
  go_enter Try.func6, Try.ntmps6
  go_wp2_with fail
  refine (begun_any w).mono ?_
  rintro e w1 ⟨rfl, hu⟩
  have U1 := hid hu
  clear hu
  go_wp2_with fail
  refine (played_any a0 b0 a len cap xs w1 (HX.out.upd U1.out) HL.out hlc hc).mono ?_
  rintro e w2 ⟨gx, gy, Q8, Q9, Q11, Q12, m, rfl, ha, hi, hf, hu⟩
  have al := pm_law10 ha
  have U2 := hid (((U1.out.trans hu (fun t ht => by cases ht)).alloc (.cells #[m.pv0, m.pv1] 46)).alloc (.cells #[m.gv0, m.gv1] 46))
  have hB : w.heap.size ≤ w1.heap.size := U1.out.size
  obtain ⟨vs0, o0, -⟩ := ha.hold 2 _ rfl
  obtain ⟨vs1, o1, -⟩ := ha.hold 3 _ rfl
  obtain ⟨vs2, o2, -⟩ := ha.hold 4 _ rfl
  obtain ⟨vs3, o3, -⟩ := ha.hold 5 _ rfl
  obtain ⟨p0, q0, e0, -⟩ := own_view o0
  obtain ⟨p1, q1, e1, -⟩ := own_view o1
  obtain ⟨p2, q2, e2, -⟩ := own_view o2
  obtain ⟨p3, q3, e3, -⟩ := own_view o3
  have E0 := hid e0
  have E1 := hid e1
  have E2 := hid e2
  have E3 := hid e3
  have AL := hid al
  have HQ : Hid (Q5 0 m.x m.y m.A0 m.A1 m.G0 m.G1) := hid ⟨fun _ => hi.wayed (fun p hp => by cases hp) (fun p hp => by cases hp), fun q => by omega⟩
  have HF : Hid (m.A0.length ≤ 300 ∧ m.A1.length ≤ 300) := hid ⟨hf.1, hf.2.1⟩
  rw [e0, e1, e2, e3]
  clear ha hi hf hu al o0 o1 o2 o3 e0 e1 e2 e3
  go_upto_region 6 with (fail)
  rw [← E0.out, ← E1.out, ← E2.out, ← E3.out]
  go_wp2_with fail
  obtain ⟨R9, hR9⟩ : ∃ R9, R9 = w2.heap.size := ⟨_, rfl⟩
  obtain ⟨R10, hR10⟩ : ∃ R10, R10 = R9 + 1 := ⟨_, rfl⟩
  have AL2 : Hid (All w1.heap.size ((w2.alloc (.cells #[m.pv0, m.pv1] 46)).alloc (.cells #[m.gv0, m.gv1] 46)) (m.law10 gx gy R9 R10)) := hid (by rw [hR10, hR9]; exact AL.out)
  rw [← hR9, ← hR10]
  clear hR9 hR10 AL E0 E1 E2 E3
  go_loopg [33] 36 (fun d v33 wr => ∃ (kk : Nat) (m : PM), v33 = .int .i64 (kk : Int) ∧ kk ≤ 36 ∧ Hid (kk + d = 36) ∧ Hid (All w1.heap.size wr (m.law10 gx gy R9 R10)) ∧ Hid (Q5 kk m.x m.y m.A0 m.A1 m.G0 m.G1) ∧ Hid (m.A0.length ≤ 300 ∧ m.A1.length ≤ 300) ∧ Hid (Upd [] w wr))
  case atStart => exact ⟨0, m, rfl, by omega, hid (by omega), AL2, HQ, HF, U2⟩
  case round =>
    clear AL2 HQ HF U2
    obtain ⟨kk, m, rfl, hk36, Hd, HA, HQ, HF, HU⟩ := hrel
    by_cases hkk : kk < 36
    · have hkk' : (kk : Int) < 36 := by omega
      have AL := hid (law11 HA.out)
      have HU1 := hid (HU.out.alloc (.cells #[.pointer (some ⟨gx, 0, none⟩), .pointer (some ⟨gy, 0, none⟩)] 23))
      have HS0 : Hid (Sr kk 0 m.x m.y m.A0 m.A1 m.G0 m.G1) := hid ⟨fun _ => HQ.out, fun q => (by cases q), fun q => (by cases q)⟩
      go_wp2_with fail
      obtain ⟨ES, hES⟩ : ∃ ES, ES = wr.heap.size := ⟨_, rfl⟩
      have AL1 : Hid (All w1.heap.size (wr.alloc (.cells #[.pointer (some ⟨gx, 0, none⟩), .pointer (some ⟨gy, 0, none⟩)] 23)) (m.law gx gy R9 R10 ES)) := hid (by rw [hES]; exact AL.out)
      rw [← hES]
      clear AL hES HA HQ
      go_loopg [39] 2 (fun d v39 wr => ∃ (j : Nat) (m : PM), v39 = .int .i64 (j : Int) ∧ j ≤ 2 ∧ Hid (j + d = 2) ∧ Hid (All w1.heap.size wr (m.law gx gy R9 R10 ES)) ∧ Hid (Sr kk j m.x m.y m.A0 m.A1 m.G0 m.G1) ∧ Hid (m.A0.length ≤ 300 ∧ m.A1.length ≤ 300) ∧ Hid (Upd [] w wr))
      case atStart => exact ⟨0, m, rfl, by omega, hid (by omega), AL1, HS0, HF, HU1⟩
      case round =>
        clear AL1 HS0 HF HU1 HU
        obtain ⟨j, m, rfl, hj2, Hd2, HA, HS, HF, HU⟩ := hrel
        have cE := HA.out.hold 10 _ rfl
        have c11a : wr.cell? ⟨ES, 0, none⟩ = some (.pointer (some ⟨gx, 0, none⟩)) := (blk_cell cE 0).trans rfl
        have c11b : wr.cell? ⟨ES, 1, none⟩ = some (.pointer (some ⟨gy, 0, none⟩)) := (blk_cell cE 1).trans rfl
        have gES := blk_lt cE
        have HII := hid (HS.out.inv hj2)
        clear cE
        have hj3 : j = 0 ∨ j = 1 ∨ j = 2 := by omega
        clear hj2
        rcases hj3 with rfl | rfl | rfl
        · have HAN : Hid (∀ k, All w1.heap.size ((wr.alloc (.cells #[.pointer (some ⟨gy, 0, none⟩), .pointer (some ⟨gx, 0, none⟩)] 23)).drewN k) (m.law gx gy R9 R10 ES)) := hid (fun k => HA.out.new (((Upd.refl [] wr).alloc _).drewN k))
          have HUN : Hid (∀ k, Upd [] w ((wr.alloc (.cells #[.pointer (some ⟨gy, 0, none⟩), .pointer (some ⟨gx, 0, none⟩)] 23)).drewN k)) := hid (fun k => (HU.out.alloc _).drewN k)
          go_upto_region 12 with (fail)
          clear c11a c11b gES
          go_cut [] from 50 to 57 (fun wx => ∃ F' v', All w1.heap.size wx (({ m with F0 := F', x := egot m.x, gv0 := v', G0 := m.G0 ++ m.x.read } : PM).law gx gy R9 R10 ES) ∧ Upd [] w wx)
          case first =>
            refine J.J_begin (fun wz => wz.cell? ⟨R10, 0, none⟩ = some m.gv0) 8 (by kernel_rfl) ⟨by kernel_rfl, by kernel_rfl, by kernel_rfl⟩ ((blk_cell ((HAN.out 1).hold 9 _ rfl) 0).trans rfl) (fun LAST HS => ?_)
            refine J.J_take (i := 0) (v := ?_) LAST (by rfl) (by decide) (by kernel_rfl) (by kernel_rfl) (by intro _ _ _ h; exact h) HS (Or.inl ⟨by rfl, ?_⟩) ?_
            rotate_left
            · intro w hSw; (try dsimp only at hSw); go_simp; try with_reducible rfl
            try simp only [Act.put, List.setIfInBounds_toArray, List.set_cons_zero, List.set_cons_succ]
            refine J.J_take (i := 1) (v := ?_) LAST (by rfl) (by decide) (by kernel_rfl) (by kernel_rfl) (by intro _ _ _ h; exact h) HS (Or.inl ⟨by rfl, ?_⟩) ?_
            rotate_left
            · intro w hSw; (try dsimp only at hSw); go_simp; try with_reducible rfl
            try simp only [Act.put, List.setIfInBounds_toArray, List.set_cons_zero, List.set_cons_succ]
            refine J.J_take (i := 2) (v := ?_) LAST (by rfl) (by decide) (by kernel_rfl) (by kernel_rfl) (by intro _ _ _ h; exact h) HS (Or.inl ⟨by rfl, ?_⟩) ?_
            rotate_left
            · intro w hSw; (try dsimp only at hSw); go_simp; try with_reducible rfl
            try simp only [Act.put, List.setIfInBounds_toArray, List.set_cons_zero, List.set_cons_succ]
            refine J.J_take (i := 3) (v := ?_) LAST (by rfl) (by decide) (by kernel_rfl) (by kernel_rfl) (by intro _ _ _ h; exact h) HS (Or.inl ⟨by rfl, ?_⟩) ?_
            rotate_left
            · intro w hSw; (try dsimp only at hSw); go_simp; try with_reducible rfl
            try simp only [Act.put, List.setIfInBounds_toArray, List.set_cons_zero, List.set_cons_succ]
            refine J.J_take (i := 4) (v := ?_) LAST (by rfl) (by decide) (by kernel_rfl) (by kernel_rfl) (by intro _ _ _ h; exact h) HS (Or.inl ⟨by rfl, ?_⟩) ?_
            rotate_left
            · intro w hSw; (try dsimp only at hSw); go_simp; try with_reducible rfl
            try simp only [Act.put, List.setIfInBounds_toArray, List.set_cons_zero, List.set_cons_succ]
            refine J.J_one (i := 5) (by rfl) (by decide) (by kernel_rfl) (fun KK hK => ?_)
            go_simp
            refine (a_got (HAN.out 1) (i := 0) rfl).mono ?_
            rintro e w4 ⟨F', v, rs, rfl, ow, bs, ha, hu⟩
            have HA4 := hid ha
            have HU4 := hid (All.after (HUN.out 1) (HAN.out 1) (i := 0) rfl hu hB)
            obtain ⟨gs, og, bg⟩ := ha.hold 4 _ rfl
            obtain ⟨ng, hng⟩ : ∃ ng, ng = m.G0.length := ⟨_, rfl⟩
            obtain ⟨nr, hnr⟩ : ∃ nr, nr = m.x.read.length := ⟨_, rfl⟩
            have OG : Hid (w4.ownsRow 0 29 1 m.gv0 ng gs) := hid (by rw [hng]; exact og)
            have OR : Hid (w4.ownsRow 0 29 1 v nr rs) := hid (by rw [hnr]; exact ow)
            have BG := hid bg
            have BR := hid bs
            have HNG := hid hng
            have HNR := hid hnr
            have hlen : ng + nr ≤ 300 := by
              obtain ⟨f1, f2⟩ := HF.out
              have h1 := congrArg List.length (HII.out.yx.got)
              simp only [List.length_append, List.length_take] at h1
              omega
            have HS1 : w4.cell? ⟨R10, 0, none⟩ = some m.gv0 := (blk_cell (ha.hold 9 _ rfl) 0).trans rfl
            obtain ⟨va, vk, ev, -⟩ := own_view OR.out
            subst ev
            clear ha hu ow bs og bg hng hnr
            go_wp2_with fail
            refine hK.out _ _ HS1 ?_
            clear hK KK HS
            try simp only [List.setIfInBounds_toArray]
            refine J.J_one (i := 6) (by rfl) (by decide) (by kernel_rfl) (fun KK hK => ?_)
            refine step_app_row rfl (.tmp 53) (.tmp 55) 37 rfl 29 i29 _ 1 24 Try.underlying37 HI29.out HA29.out HB29.out HC29.out rfl (by decide) m.gv0 ng gs (by rfl) OG.out (.slice va nr vk) nr 0 rs (by rfl) OR.out BR.out.ones (by unfold maxLen; omega) (by omega) ?_
            intro v5 w5 ho hu5 hl5
            obtain ⟨a5, k5, e5, -⟩ := own_view ho
            subst e5
            have HU5 := hid hu5
            have al5 := HA4.out.set (i := 4) (a' := rowI (.slice a5 (ng + nr) k5) (m.G0 ++ m.x.read)) rfl hu5 ⟨_, by rw [List.length_append, ← HNG.out, ← HNR.out]; exact ho, (BG.out.upd hu5 (fun s hs => Itm.nob _ (HA4.out.hold 4 _ rfl) s hs)).append (BR.out.upd hu5 (fun s hs => Itm.nob _ (HA4.out.hold 4 _ rfl) s hs))⟩ (fun s hs => (hl5 s (by simpa [rowI] using hs)).imp (fun q => by simpa [rowI] using q) id)
            have AL5 := hid al5
            have c9 := al5.hold 9 _ rfl
            have HS5 : w5.cell? ⟨R10, 0, none⟩ = some m.gv0 := (blk_cell c9 0).trans rfl
            have c9f := blk_frozen c9
            clear ho hu5 hl5 al5 c9
            refine hK.out _ _ HS5 ?_
            clear hK KK HS1
            try simp only [Act.put, List.setIfInBounds_toArray, List.set_cons_zero, List.set_cons_succ]
            refine J.J_take (i := 7) (v := ?_) LAST (by rfl) (by decide) (by kernel_rfl) (by kernel_rfl) (by intro _ _ _ h; exact h) HS5 (Or.inl ⟨by rfl, ?_⟩) ?_
            rotate_left
            · intro w hSw; (try dsimp only at hSw); go_simp; try with_reducible rfl
            try simp only [Act.put, List.setIfInBounds_toArray, List.set_cons_zero, List.set_cons_succ]
            refine J.J_last (by rfl) (by kernel_rfl) (by kernel_rfl) ?_
            go_simp
            go_wp2_with fail
            go_meet
            have u6 : Upd [R10] w5 (w5.setCell ⟨R10, 0, none⟩ (.slice a5 (ng + nr) k5)) := (Upd.refl _ _).setCell (.inl (by simp)) _
            have A6 := AL5.out.set (i := 9) (a' := blkI R10 #[.slice a5 (ng + nr) k5, m.gv1] 46 (by decide)) rfl u6 (blk_set (AL5.out.hold 9 _ rfl) 0 _) (Fresh.refl _ _)
            exact ⟨F', .slice a5 (ng + nr) k5, A6, All.after (All.after HU4.out HA4.out (i := 4) rfl HU5.out hB) AL5.out (i := 9) rfl u6 hB⟩
          obtain ⟨F', v', ha, hu⟩ := hcut
          have HA2 := hid ha
          have HU2 := hid hu
          clear ha hu HAN HUN HA HU
          go_wp2_with fail
          refine (a_tick HA2.out (i := 0) rfl).mono ?_
          rintro e w4 ⟨rfl, ha, hu⟩
          have HA4 : Hid (All w1.heap.size w4 (({ m with F0 := F', x := m.x.ready, gv0 := v', G0 := m.G0 ++ m.x.read } : PM).law gx gy R9 R10 ES)) := hid ha
          have HU4 := hid (All.after HU2.out HA2.out (i := 0) rfl hu hB)
          clear ha hu HA2 HU2
          have IR := hid (HII.out.gotten.tick)
          go_wp2_with fail
          refine (a_out2 HA4.out (i := 0) rfl (IR.out.ok (by obtain ⟨f1, f2⟩ := HF.out; omega) (by obtain ⟨f1, f2⟩ := HF.out; omega))).mono ?_
          rintro e w5 ⟨v, rfl, ha, hu⟩
          obtain ⟨qs, hqs⟩ : ∃ qs, qs = m.x.ready.out := ⟨_, rfl⟩
          have HA5 : Hid (All w1.heap.size w5 (({ m with F0 := F', x := m.x.ready.outE, gv0 := v', G0 := m.G0 ++ m.x.read } : PM).law gx gy R9 R10 ES ++ [pksI v qs])) := hid (by rw [hqs]; exact ha)
          have HU5 := hid (All.after HU4.out HA4.out (i := 0) rfl hu hB)
          have IS : Hid (Inv m.x.ready.outE m.y m.A0 m.A1 (m.G0 ++ m.x.read) m.G1 [] qs) := hid (by rw [hqs]; exact IR.out.said)
          have hshape : IsPks w5 0 v qs := HA5.out.hold 11 _ rfl
          obtain ⟨va, vk, ev, vl1, vl2⟩ := hshape.shape
          obtain ⟨nq, hnq⟩ : ∃ nq, nq = qs.length := ⟨_, rfl⟩
          rw [← hnq] at ev vl1
          have HQS := hid hqs
          have HNQ := hid hnq
          have hnq2 : nq ≤ 16 := by
            rw [hnq, hqs]; exact out_len _ (Nat.le_trans HII.out.fx.kept HII.out.fx.win)
          subst ev
          clear ha hu hshape HA4 HU4 hqs hnq IR
          go_wp2_with fail
          go_loopg [63] nq (fun d v63 wr => ∃ (i : Nat) (FY : List Nat), v63 = .int .i64 (i : Int) ∧ i ≤ nq ∧ Hid (i + d = nq) ∧ Hid (All w1.heap.size wr (({ m with F0 := F', x := m.x.ready.outE, gv0 := v', G0 := m.G0 ++ m.x.read, F1 := FY, y := (qs.take i).foldl E.come m.y } : PM).law gx gy R9 R10 ES ++ [pksI (.slice va nq vk) qs])) ∧ Hid (Upd [] w wr))
          case atStart => exact ⟨0, _, rfl, by omega, hid (by omega), HA5, HU5⟩
          case round =>
            clear HA5 HU5
            obtain ⟨i, FY, rfl, hi, Hd3, HA6, HU6⟩ := hrel
            by_cases hin : i < nq
            · have hi' : (i : Int) < (nq : Int) := by omega
              have hpk : IsPks wr 0 (.slice va nq vk) qs := HA6.out.hold 11 _ rfl
              have hil : i < qs.length := by have := HNQ.out; omega
              obtain ⟨g2, k2, u, e1, _, _, c0, c1, c2, c3, c4, hb⟩ := hpk.get (i := i) hil
              simp only [Value.slice.injEq] at e1
              obtain ⟨rfl, -, rfl⟩ := e1
              have htf := take_fold qs m.y i hil
              obtain ⟨p, hp⟩ : ∃ p, p = qs.getD i noPk := ⟨_, rfl⟩
              rw [← hp] at c0 c1 c2 c3 hb htf
              have hpm : p ∈ qs := by rw [hp, List.getD_eq_getElem?_getD, List.getElem?_eq_getElem hil]; exact List.getElem_mem _
              have iv := Inv.fold qs (qs.take i) IS.out (fun q hq => List.mem_of_mem_take hq)
              obtain ⟨-, p2, p3, p4, p5⟩ := iv.xy.pk p hpm
              have HB := hid hb
              obtain ⟨ua, uk, eu, -⟩ := id hb
              obtain ⟨bl, hbl⟩ : ∃ bl, bl = p.body.length := ⟨_, rfl⟩
              rw [← hbl] at eu
              subst eu
              have IV := hid iv
              have HTF := hid htf
              have BND : Hid (p.window ≤ 16 ∧ p.body.length ≤ 1048576 ∧ p.ack ≤ 1000000 ∧ p.seq ≤ 1000000 ∧ ((qs.take i).foldl E.come m.y).told ≤ 100) := hid (by
                obtain ⟨f1, f2⟩ := HF.out
                have t1 := iv.yx.told
                have t2 := iv.fy.kept
                have t3 := iv.fy.win
                have t4 := iv.xy.wa
                have t5 := iv.yx.wa
                exact ⟨p3, by omega, by omega, by omega, by omega⟩)
              clear hpk hp hpm hb hbl iv htf p2 p3 p4 p5 hil
              go_wp2_with fail
              refine (a_come (HA6.out.new ((Upd.refl [] _).alloc _)) (i := 1) rfl (IV.out.swap.ok (by obtain ⟨f1, f2⟩ := HF.out; omega) (by obtain ⟨f1, f2⟩ := HF.out; omega)) p _ (HB.out.upd ((Upd.refl [] _).alloc _) (NoB.nil _)) BND.out.1 BND.out.2.1 BND.out.2.2.1 BND.out.2.2.2.1 BND.out.2.2.2.2).mono ?_
              rintro e w7 ⟨FZ, rfl, ha, hu⟩
              have HU7 := hid (All.after (HU6.out.alloc _) (HA6.out.new ((Upd.refl [] _).alloc _)) (i := 1) rfl hu hB)
              rw [← HTF.out] at ha
              have HA7 := hid ha
              clear ha hu c0 c1 c2 c3 c4
              go_wp2_with fail
              go_roundg (nq - (i + 1))
              case measure => have := Hd3.out; omega
              case rel => exact ⟨i + 1, FZ, by go_num, by omega, hid (by omega), HA7, HU7⟩
            · obtain rfl : i = nq := by omega
              have he : (qs.take i).foldl E.come m.y = m.x.ready.out.foldl E.come m.y := by rw [HNQ.out, List.take_length, HQS.out]
              have A8 := HA6.out.take 11
              rw [he] at A8
              have HA8 := hid A8
              clear A8 he
              go_wp2_with fail
              go_roundg 1
              case measure => have := Hd2.out; omega
              case rel => exact ⟨0 + 1, { m with F0 := F', x := m.x.ready.outE, gv0 := v', G0 := m.G0 ++ m.x.read, F1 := FY, y := m.x.ready.out.foldl E.come m.y }, by go_num, by omega, hid (by omega), HA8, hid HS.out.first, HF, HU6⟩
        · have HAN : Hid (∀ k, All w1.heap.size ((wr.alloc (.cells #[.pointer (some ⟨gy, 0, none⟩), .pointer (some ⟨gx, 0, none⟩)] 23)).drewN k) (m.law gx gy R9 R10 ES)) := hid (fun k => HA.out.new (((Upd.refl [] wr).alloc _).drewN k))
          have HUN : Hid (∀ k, Upd [] w ((wr.alloc (.cells #[.pointer (some ⟨gy, 0, none⟩), .pointer (some ⟨gx, 0, none⟩)] 23)).drewN k)) := hid (fun k => (HU.out.alloc _).drewN k)
          go_upto_region 12 with (fail)
          clear c11a c11b gES
          go_cut [] from 50 to 57 (fun wx => ∃ F' v', All w1.heap.size wx (({ m with F1 := F', y := egot m.y, gv1 := v', G1 := m.G1 ++ m.y.read } : PM).law gx gy R9 R10 ES) ∧ Upd [] w wx)
          case first =>
            refine J.J_begin (fun wz => wz.cell? ⟨R10, 1, none⟩ = some m.gv1) 8 (by kernel_rfl) ⟨by kernel_rfl, by kernel_rfl, by kernel_rfl⟩ ((blk_cell ((HAN.out 1).hold 9 _ rfl) 1).trans rfl) (fun LAST HS => ?_)
            refine J.J_take (i := 0) (v := ?_) LAST (by rfl) (by decide) (by kernel_rfl) (by kernel_rfl) (by intro _ _ _ h; exact h) HS (Or.inl ⟨by rfl, ?_⟩) ?_
            rotate_left
            · intro w hSw; (try dsimp only at hSw); go_simp; try with_reducible rfl
            try simp only [Act.put, List.setIfInBounds_toArray, List.set_cons_zero, List.set_cons_succ]
            refine J.J_take (i := 1) (v := ?_) LAST (by rfl) (by decide) (by kernel_rfl) (by kernel_rfl) (by intro _ _ _ h; exact h) HS (Or.inl ⟨by rfl, ?_⟩) ?_
            rotate_left
            · intro w hSw; (try dsimp only at hSw); go_simp; try with_reducible rfl
            try simp only [Act.put, List.setIfInBounds_toArray, List.set_cons_zero, List.set_cons_succ]
            refine J.J_take (i := 2) (v := ?_) LAST (by rfl) (by decide) (by kernel_rfl) (by kernel_rfl) (by intro _ _ _ h; exact h) HS (Or.inl ⟨by rfl, ?_⟩) ?_
            rotate_left
            · intro w hSw; (try dsimp only at hSw); go_simp; try with_reducible rfl
            try simp only [Act.put, List.setIfInBounds_toArray, List.set_cons_zero, List.set_cons_succ]
            refine J.J_take (i := 3) (v := ?_) LAST (by rfl) (by decide) (by kernel_rfl) (by kernel_rfl) (by intro _ _ _ h; exact h) HS (Or.inl ⟨by rfl, ?_⟩) ?_
            rotate_left
            · intro w hSw; (try dsimp only at hSw); go_simp; try with_reducible rfl
            try simp only [Act.put, List.setIfInBounds_toArray, List.set_cons_zero, List.set_cons_succ]
            refine J.J_take (i := 4) (v := ?_) LAST (by rfl) (by decide) (by kernel_rfl) (by kernel_rfl) (by intro _ _ _ h; exact h) HS (Or.inl ⟨by rfl, ?_⟩) ?_
            rotate_left
            · intro w hSw; (try dsimp only at hSw); go_simp; try with_reducible rfl
            try simp only [Act.put, List.setIfInBounds_toArray, List.set_cons_zero, List.set_cons_succ]
            refine J.J_one (i := 5) (by rfl) (by decide) (by kernel_rfl) (fun KK hK => ?_)
            go_simp
            refine (a_got (HAN.out 1) (i := 1) rfl).mono ?_
            rintro e w4 ⟨F', v, rs, rfl, ow, bs, ha, hu⟩
            have HA4 := hid ha
            have HU4 := hid (All.after (HUN.out 1) (HAN.out 1) (i := 1) rfl hu hB)
            obtain ⟨gs, og, bg⟩ := ha.hold 5 _ rfl
            obtain ⟨ng, hng⟩ : ∃ ng, ng = m.G1.length := ⟨_, rfl⟩
            obtain ⟨nr, hnr⟩ : ∃ nr, nr = m.y.read.length := ⟨_, rfl⟩
            have OG : Hid (w4.ownsRow 0 29 1 m.gv1 ng gs) := hid (by rw [hng]; exact og)
            have OR : Hid (w4.ownsRow 0 29 1 v nr rs) := hid (by rw [hnr]; exact ow)
            have BG := hid bg
            have BR := hid bs
            have HNG := hid hng
            have HNR := hid hnr
            have hlen : ng + nr ≤ 300 := by
              obtain ⟨f1, f2⟩ := HF.out
              have h1 := congrArg List.length (HII.out.swap.yx.got)
              simp only [List.length_append, List.length_take] at h1
              omega
            have HS1 : w4.cell? ⟨R10, 1, none⟩ = some m.gv1 := (blk_cell (ha.hold 9 _ rfl) 1).trans rfl
            obtain ⟨va, vk, ev, -⟩ := own_view OR.out
            subst ev
            clear ha hu ow bs og bg hng hnr
            go_wp2_with fail
            refine hK.out _ _ HS1 ?_
            clear hK KK HS
            try simp only [List.setIfInBounds_toArray]
            refine J.J_one (i := 6) (by rfl) (by decide) (by kernel_rfl) (fun KK hK => ?_)
            refine step_app_row rfl (.tmp 53) (.tmp 55) 37 rfl 29 i29 _ 1 24 Try.underlying37 HI29.out HA29.out HB29.out HC29.out rfl (by decide) m.gv1 ng gs (by rfl) OG.out (.slice va nr vk) nr 0 rs (by rfl) OR.out BR.out.ones (by unfold maxLen; omega) (by omega) ?_
            intro v5 w5 ho hu5 hl5
            obtain ⟨a5, k5, e5, -⟩ := own_view ho
            subst e5
            have HU5 := hid hu5
            have al5 := HA4.out.set (i := 5) (a' := rowI (.slice a5 (ng + nr) k5) (m.G1 ++ m.y.read)) rfl hu5 ⟨_, by rw [List.length_append, ← HNG.out, ← HNR.out]; exact ho, (BG.out.upd hu5 (fun s hs => Itm.nob _ (HA4.out.hold 5 _ rfl) s hs)).append (BR.out.upd hu5 (fun s hs => Itm.nob _ (HA4.out.hold 5 _ rfl) s hs))⟩ (fun s hs => (hl5 s (by simpa [rowI] using hs)).imp (fun q => by simpa [rowI] using q) id)
            have AL5 := hid al5
            have c9 := al5.hold 9 _ rfl
            have HS5 : w5.cell? ⟨R10, 1, none⟩ = some m.gv1 := (blk_cell c9 1).trans rfl
            have c9f := blk_frozen c9
            clear ho hu5 hl5 al5 c9
            refine hK.out _ _ HS5 ?_
            clear hK KK HS1
            try simp only [Act.put, List.setIfInBounds_toArray, List.set_cons_zero, List.set_cons_succ]
            refine J.J_take (i := 7) (v := ?_) LAST (by rfl) (by decide) (by kernel_rfl) (by kernel_rfl) (by intro _ _ _ h; exact h) HS5 (Or.inl ⟨by rfl, ?_⟩) ?_
            rotate_left
            · intro w hSw; (try dsimp only at hSw); go_simp; try with_reducible rfl
            try simp only [Act.put, List.setIfInBounds_toArray, List.set_cons_zero, List.set_cons_succ]
            refine J.J_last (by rfl) (by kernel_rfl) (by kernel_rfl) ?_
            go_simp
            go_wp2_with fail
            go_meet
            have u6 : Upd [R10] w5 (w5.setCell ⟨R10, 1, none⟩ (.slice a5 (ng + nr) k5)) := (Upd.refl _ _).setCell (.inl (by simp)) _
            have A6 := AL5.out.set (i := 9) (a' := blkI R10 #[m.gv0, .slice a5 (ng + nr) k5] 46 (by decide)) rfl u6 (blk_set (AL5.out.hold 9 _ rfl) 1 _) (Fresh.refl _ _)
            exact ⟨F', .slice a5 (ng + nr) k5, A6, All.after (All.after HU4.out HA4.out (i := 5) rfl HU5.out hB) AL5.out (i := 9) rfl u6 hB⟩
          obtain ⟨F', v', ha, hu⟩ := hcut
          have HA2 := hid ha
          have HU2 := hid hu
          clear ha hu HAN HUN HA HU
          go_wp2_with fail
          refine (a_tick HA2.out (i := 1) rfl).mono ?_
          rintro e w4 ⟨rfl, ha, hu⟩
          have HA4 : Hid (All w1.heap.size w4 (({ m with F1 := F', y := m.y.ready, gv1 := v', G1 := m.G1 ++ m.y.read } : PM).law gx gy R9 R10 ES)) := hid ha
          have HU4 := hid (All.after HU2.out HA2.out (i := 1) rfl hu hB)
          clear ha hu HA2 HU2
          have IR := hid (HII.out.swap.gotten.tick)
          go_wp2_with fail
          refine (a_out2 HA4.out (i := 1) rfl (IR.out.ok (by obtain ⟨f1, f2⟩ := HF.out; omega) (by obtain ⟨f1, f2⟩ := HF.out; omega))).mono ?_
          rintro e w5 ⟨v, rfl, ha, hu⟩
          obtain ⟨qs, hqs⟩ : ∃ qs, qs = m.y.ready.out := ⟨_, rfl⟩
          have HA5 : Hid (All w1.heap.size w5 (({ m with F1 := F', y := m.y.ready.outE, gv1 := v', G1 := m.G1 ++ m.y.read } : PM).law gx gy R9 R10 ES ++ [pksI v qs])) := hid (by rw [hqs]; exact ha)
          have HU5 := hid (All.after HU4.out HA4.out (i := 1) rfl hu hB)
          have IS : Hid (Inv m.y.ready.outE m.x m.A1 m.A0 (m.G1 ++ m.y.read) m.G0 [] qs) := hid (by rw [hqs]; exact IR.out.said)
          have hshape : IsPks w5 0 v qs := HA5.out.hold 11 _ rfl
          obtain ⟨va, vk, ev, vl1, vl2⟩ := hshape.shape
          obtain ⟨nq, hnq⟩ : ∃ nq, nq = qs.length := ⟨_, rfl⟩
          rw [← hnq] at ev vl1
          have HQS := hid hqs
          have HNQ := hid hnq
          have hnq2 : nq ≤ 16 := by
            rw [hnq, hqs]; exact out_len _ (Nat.le_trans HII.out.swap.fx.kept HII.out.swap.fx.win)
          subst ev
          clear ha hu hshape HA4 HU4 hqs hnq IR
          go_wp2_with fail
          go_loopg [63] nq (fun d v63 wr => ∃ (i : Nat) (FY : List Nat), v63 = .int .i64 (i : Int) ∧ i ≤ nq ∧ Hid (i + d = nq) ∧ Hid (All w1.heap.size wr (({ m with F1 := F', y := m.y.ready.outE, gv1 := v', G1 := m.G1 ++ m.y.read, F0 := FY, x := (qs.take i).foldl E.come m.x } : PM).law gx gy R9 R10 ES ++ [pksI (.slice va nq vk) qs])) ∧ Hid (Upd [] w wr))
          case atStart => exact ⟨0, _, rfl, by omega, hid (by omega), HA5, HU5⟩
          case round =>
            clear HA5 HU5
            obtain ⟨i, FY, rfl, hi, Hd3, HA6, HU6⟩ := hrel
            by_cases hin : i < nq
            · have hi' : (i : Int) < (nq : Int) := by omega
              have hpk : IsPks wr 0 (.slice va nq vk) qs := HA6.out.hold 11 _ rfl
              have hil : i < qs.length := by have := HNQ.out; omega
              obtain ⟨g2, k2, u, e1, _, _, c0, c1, c2, c3, c4, hb⟩ := hpk.get (i := i) hil
              simp only [Value.slice.injEq] at e1
              obtain ⟨rfl, -, rfl⟩ := e1
              have htf := take_fold qs m.x i hil
              obtain ⟨p, hp⟩ : ∃ p, p = qs.getD i noPk := ⟨_, rfl⟩
              rw [← hp] at c0 c1 c2 c3 hb htf
              have hpm : p ∈ qs := by rw [hp, List.getD_eq_getElem?_getD, List.getElem?_eq_getElem hil]; exact List.getElem_mem _
              have iv := Inv.fold qs (qs.take i) IS.out (fun q hq => List.mem_of_mem_take hq)
              obtain ⟨-, p2, p3, p4, p5⟩ := iv.xy.pk p hpm
              have HB := hid hb
              obtain ⟨ua, uk, eu, -⟩ := id hb
              obtain ⟨bl, hbl⟩ : ∃ bl, bl = p.body.length := ⟨_, rfl⟩
              rw [← hbl] at eu
              subst eu
              have IV := hid iv
              have HTF := hid htf
              have BND : Hid (p.window ≤ 16 ∧ p.body.length ≤ 1048576 ∧ p.ack ≤ 1000000 ∧ p.seq ≤ 1000000 ∧ ((qs.take i).foldl E.come m.x).told ≤ 100) := hid (by
                obtain ⟨f1, f2⟩ := HF.out
                have t1 := iv.yx.told
                have t2 := iv.fy.kept
                have t3 := iv.fy.win
                have t4 := iv.xy.wa
                have t5 := iv.yx.wa
                exact ⟨p3, by omega, by omega, by omega, by omega⟩)
              clear hpk hp hpm hb hbl iv htf p2 p3 p4 p5 hil
              go_wp2_with fail
              refine (a_come (HA6.out.new ((Upd.refl [] _).alloc _)) (i := 0) rfl (IV.out.swap.ok (by obtain ⟨f1, f2⟩ := HF.out; omega) (by obtain ⟨f1, f2⟩ := HF.out; omega)) p _ (HB.out.upd ((Upd.refl [] _).alloc _) (NoB.nil _)) BND.out.1 BND.out.2.1 BND.out.2.2.1 BND.out.2.2.2.1 BND.out.2.2.2.2).mono ?_
              rintro e w7 ⟨FZ, rfl, ha, hu⟩
              have HU7 := hid (All.after (HU6.out.alloc _) (HA6.out.new ((Upd.refl [] _).alloc _)) (i := 0) rfl hu hB)
              rw [← HTF.out] at ha
              have HA7 := hid ha
              clear ha hu c0 c1 c2 c3 c4
              go_wp2_with fail
              go_roundg (nq - (i + 1))
              case measure => have := Hd3.out; omega
              case rel => exact ⟨i + 1, FZ, by go_num, by omega, hid (by omega), HA7, HU7⟩
            · obtain rfl : i = nq := by omega
              have he : (qs.take i).foldl E.come m.x = m.y.ready.out.foldl E.come m.x := by rw [HNQ.out, List.take_length, HQS.out]
              have A8 := HA6.out.take 11
              rw [he] at A8
              have HA8 := hid A8
              clear A8 he
              go_wp2_with fail
              go_roundg 0
              case measure => have := Hd2.out; omega
              case rel => exact ⟨1 + 1, { m with F1 := F', y := m.y.ready.outE, gv1 := v', G1 := m.G1 ++ m.y.read, F0 := FY, x := m.y.ready.out.foldl E.come m.x }, by go_num, by omega, hid (by omega), HA8, hid HS.out.second, HF, HU6⟩
        · have HA10 : Hid (All w1.heap.size wr (m.law10 gx gy R9 R10)) := hid (HA.out.take 10)
          go_wp2_with fail
          go_roundg (36 - (kk + 1))
          case measure => have := Hd.out; omega
          case rel => exact ⟨kk + 1, m, by go_num, by omega, hid (by omega), HA10, hid (HS.out.2.2 rfl), HF, HU⟩
    · obtain rfl : kk = 36 := by omega
      have RL := round_last (HQ.out.2 (by omega))
      have HK : Hid (Inv m.x m.y m.A0 m.A1 m.G0 m.G1 [] [] ∧ m.x.kept = [] ∧ m.y.kept = [] ∧ m.G0 ++ m.x.read = m.A1 ∧ m.G1 ++ m.y.read = m.A0) := hid ⟨HQ.out.inv, RL⟩
      have AL := hid (law11 HA.out)
      have HU1 := hid (HU.out.alloc (.cells #[.pointer (some ⟨gx, 0, none⟩), .pointer (some ⟨gy, 0, none⟩)] 23))
      clear RL HQ
      go_wp2_with fail
      obtain ⟨ES, hES⟩ : ∃ ES, ES = wr.heap.size := ⟨_, rfl⟩
      have AL1 : Hid (All w1.heap.size (wr.alloc (.cells #[.pointer (some ⟨gx, 0, none⟩), .pointer (some ⟨gy, 0, none⟩)] 23)) (m.law gx gy R9 R10 ES)) := hid (by rw [hES]; exact AL.out)
      rw [← hES]
      clear AL hES HA
      go_loopg [78] 2 (fun d v78 wr => ∃ (j : Nat) (m : PM), v78 = .int .i64 (j : Int) ∧ j ≤ 2 ∧ Hid (j + d = 2) ∧ Hid (All w1.heap.size wr (m.law gx gy R9 R10 ES)) ∧ Hid (Inv m.x m.y m.A0 m.A1 m.G0 m.G1 [] [] ∧ m.x.kept = [] ∧ m.y.kept = [] ∧ m.G0 ++ m.x.read = m.A1 ∧ m.G1 ++ m.y.read = m.A0) ∧ Hid (m.A0.length ≤ 300 ∧ m.A1.length ≤ 300) ∧ Hid (Upd [] w wr))
      case atStart => exact ⟨0, m, rfl, by omega, hid (by omega), AL1, HK, HF, HU1⟩
      case round =>
        clear AL1 HK HF HU1 HU
        obtain ⟨j, m, rfl, hj2, Hd2, HA, HK, HF, HU⟩ := hrel
        have cE := HA.out.hold 10 _ rfl
        have c11a : wr.cell? ⟨ES, 0, none⟩ = some (.pointer (some ⟨gx, 0, none⟩)) := (blk_cell cE 0).trans rfl
        have c11b : wr.cell? ⟨ES, 1, none⟩ = some (.pointer (some ⟨gy, 0, none⟩)) := (blk_cell cE 1).trans rfl
        have HII := hid HK.out.1
        clear cE
        have hj3 : j = 0 ∨ j = 1 ∨ j = 2 := by omega
        clear hj2
        rcases hj3 with rfl | rfl | rfl
        · have HAN : Hid (∀ k, All w1.heap.size (wr.drewN k) (m.law gx gy R9 R10 ES)) := hid (fun k => HA.out.new ((Upd.refl [] wr).drewN k))
          go_upto_region 25 with (fail)
          clear c11a c11b
          go_cut [] from 83 to 90 (fun wx => ∃ F' v', All w1.heap.size wx (({ m with F0 := F', x := egot m.x, gv0 := v', G0 := m.G0 ++ m.x.read } : PM).law gx gy R9 R10 ES) ∧ Upd [] w wx)
          case first =>
            refine J.J_begin (fun wz => wz.cell? ⟨R10, 0, none⟩ = some m.gv0) 8 (by kernel_rfl) ⟨by kernel_rfl, by kernel_rfl, by kernel_rfl⟩ ((blk_cell ((HAN.out 1).hold 9 _ rfl) 0).trans rfl) (fun LAST HS => ?_)
            refine J.J_take (i := 0) (v := ?_) LAST (by rfl) (by decide) (by kernel_rfl) (by kernel_rfl) (by intro _ _ _ h; exact h) HS (Or.inl ⟨by rfl, ?_⟩) ?_
            rotate_left
            · intro w hSw; (try dsimp only at hSw); go_simp; try with_reducible rfl
            try simp only [Act.put, List.setIfInBounds_toArray, List.set_cons_zero, List.set_cons_succ]
            refine J.J_take (i := 1) (v := ?_) LAST (by rfl) (by decide) (by kernel_rfl) (by kernel_rfl) (by intro _ _ _ h; exact h) HS (Or.inl ⟨by rfl, ?_⟩) ?_
            rotate_left
            · intro w hSw; (try dsimp only at hSw); go_simp; try with_reducible rfl
            try simp only [Act.put, List.setIfInBounds_toArray, List.set_cons_zero, List.set_cons_succ]
            refine J.J_take (i := 2) (v := ?_) LAST (by rfl) (by decide) (by kernel_rfl) (by kernel_rfl) (by intro _ _ _ h; exact h) HS (Or.inl ⟨by rfl, ?_⟩) ?_
            rotate_left
            · intro w hSw; (try dsimp only at hSw); go_simp; try with_reducible rfl
            try simp only [Act.put, List.setIfInBounds_toArray, List.set_cons_zero, List.set_cons_succ]
            refine J.J_take (i := 3) (v := ?_) LAST (by rfl) (by decide) (by kernel_rfl) (by kernel_rfl) (by intro _ _ _ h; exact h) HS (Or.inl ⟨by rfl, ?_⟩) ?_
            rotate_left
            · intro w hSw; (try dsimp only at hSw); go_simp; try with_reducible rfl
            try simp only [Act.put, List.setIfInBounds_toArray, List.set_cons_zero, List.set_cons_succ]
            refine J.J_take (i := 4) (v := ?_) LAST (by rfl) (by decide) (by kernel_rfl) (by kernel_rfl) (by intro _ _ _ h; exact h) HS (Or.inl ⟨by rfl, ?_⟩) ?_
            rotate_left
            · intro w hSw; (try dsimp only at hSw); go_simp; try with_reducible rfl
            try simp only [Act.put, List.setIfInBounds_toArray, List.set_cons_zero, List.set_cons_succ]
            refine J.J_one (i := 5) (by rfl) (by decide) (by kernel_rfl) (fun KK hK => ?_)
            go_simp
            refine (a_got (HAN.out 1) (i := 0) rfl).mono ?_
            rintro e w4 ⟨F', v, rs, rfl, ow, bs, ha, hu⟩
            have HA4 := hid ha
            have HU4 := hid (All.after (HU.out.drewN 1) (HAN.out 1) (i := 0) rfl hu hB)
            obtain ⟨gs, og, bg⟩ := ha.hold 4 _ rfl
            obtain ⟨ng, hng⟩ : ∃ ng, ng = m.G0.length := ⟨_, rfl⟩
            obtain ⟨nr, hnr⟩ : ∃ nr, nr = m.x.read.length := ⟨_, rfl⟩
            have OG : Hid (w4.ownsRow 0 29 1 m.gv0 ng gs) := hid (by rw [hng]; exact og)
            have OR : Hid (w4.ownsRow 0 29 1 v nr rs) := hid (by rw [hnr]; exact ow)
            have BG := hid bg
            have BR := hid bs
            have HNG := hid hng
            have HNR := hid hnr
            have hlen : ng + nr ≤ 300 := by
              obtain ⟨f1, f2⟩ := HF.out
              have h1 := congrArg List.length (HII.out.yx.got)
              simp only [List.length_append, List.length_take] at h1
              omega
            have HS1 : w4.cell? ⟨R10, 0, none⟩ = some m.gv0 := (blk_cell (ha.hold 9 _ rfl) 0).trans rfl
            obtain ⟨va, vk, ev, -⟩ := own_view OR.out
            subst ev
            clear ha hu ow bs og bg hng hnr
            go_wp2_with fail
            refine hK.out _ _ HS1 ?_
            clear hK KK HS
            try simp only [List.setIfInBounds_toArray]
            refine J.J_one (i := 6) (by rfl) (by decide) (by kernel_rfl) (fun KK hK => ?_)
            refine step_app_row rfl (.tmp 86) (.tmp 88) 37 rfl 29 i29 _ 1 24 Try.underlying37 HI29.out HA29.out HB29.out HC29.out rfl (by decide) m.gv0 ng gs (by rfl) OG.out (.slice va nr vk) nr 0 rs (by rfl) OR.out BR.out.ones (by unfold maxLen; omega) (by omega) ?_
            intro v5 w5 ho hu5 hl5
            obtain ⟨a5, k5, e5, -⟩ := own_view ho
            subst e5
            have HU5 := hid hu5
            have al5 := HA4.out.set (i := 4) (a' := rowI (.slice a5 (ng + nr) k5) (m.G0 ++ m.x.read)) rfl hu5 ⟨_, by rw [List.length_append, ← HNG.out, ← HNR.out]; exact ho, (BG.out.upd hu5 (fun s hs => Itm.nob _ (HA4.out.hold 4 _ rfl) s hs)).append (BR.out.upd hu5 (fun s hs => Itm.nob _ (HA4.out.hold 4 _ rfl) s hs))⟩ (fun s hs => (hl5 s (by simpa [rowI] using hs)).imp (fun q => by simpa [rowI] using q) id)
            have AL5 := hid al5
            have c9 := al5.hold 9 _ rfl
            have HS5 : w5.cell? ⟨R10, 0, none⟩ = some m.gv0 := (blk_cell c9 0).trans rfl
            have c9f := blk_frozen c9
            clear ho hu5 hl5 al5 c9
            refine hK.out _ _ HS5 ?_
            clear hK KK HS1
            try simp only [Act.put, List.setIfInBounds_toArray, List.set_cons_zero, List.set_cons_succ]
            refine J.J_take (i := 7) (v := ?_) LAST (by rfl) (by decide) (by kernel_rfl) (by kernel_rfl) (by intro _ _ _ h; exact h) HS5 (Or.inl ⟨by rfl, ?_⟩) ?_
            rotate_left
            · intro w hSw; (try dsimp only at hSw); go_simp; try with_reducible rfl
            try simp only [Act.put, List.setIfInBounds_toArray, List.set_cons_zero, List.set_cons_succ]
            refine J.J_last (by rfl) (by kernel_rfl) (by kernel_rfl) ?_
            go_simp
            go_wp2_with fail
            go_meet
            have u6 : Upd [R10] w5 (w5.setCell ⟨R10, 0, none⟩ (.slice a5 (ng + nr) k5)) := (Upd.refl _ _).setCell (.inl (by simp)) _
            have A6 := AL5.out.set (i := 9) (a' := blkI R10 #[.slice a5 (ng + nr) k5, m.gv1] 46 (by decide)) rfl u6 (blk_set (AL5.out.hold 9 _ rfl) 0 _) (Fresh.refl _ _)
            exact ⟨F', .slice a5 (ng + nr) k5, A6, All.after (All.after HU4.out HA4.out (i := 4) rfl HU5.out hB) AL5.out (i := 9) rfl u6 hB⟩
          obtain ⟨F', v', ha, hu⟩ := hcut
          have HA2 := hid ha
          have HU2 := hid hu
          clear ha hu HAN HA HU
          have HAN : Hid (∀ k, All w1.heap.size (wc.drewN k) (({ m with F0 := F', x := egot m.x, gv0 := v', G0 := m.G0 ++ m.x.read } : PM).law gx gy R9 R10 ES)) := hid (fun k => HA2.out.new ((Upd.refl [] wc).drewN k))
          have IDL := hid (idle_any ((HAN.out 1).hold 0 _ rfl))
          have HKN : Hid (decide (({ m with F0 := F', x := egot m.x, gv0 := v', G0 := m.G0 ++ m.x.read } : PM).x.kept.length = 0) = true) := hid (by show decide (m.x.kept.length = 0) = true; rw [HK.out.2.1]; rfl)
          obtain ⟨gs, og, bg⟩ := (HAN.out 1).hold 4 _ rfl
          obtain ⟨ps, op, bp⟩ := (HAN.out 1).hold 3 _ rfl
          obtain ⟨nq, hnq⟩ : ∃ nq, nq = m.A1.length := ⟨_, rfl⟩
          have hgl : (m.G0 ++ m.x.read).length = nq := by rw [HK.out.2.2.2.1, hnq]
          have EQ := hid (eqf_own (w := wc.drewN 1) (A := m.A1) (n := nq) (v := v') (u := m.pv1) hnq (by rw [← hgl]; exact og) (by rw [hnq]; exact op) (by rw [← HK.out.2.2.2.1]; exact bg) bp (by rw [hnq]; obtain ⟨f1, f2⟩ := HF.out; omega))
          clear og bg op bp hnq hgl
          go_upto_region 26 with (fail)
          have hw1 : IntKind.i64.wrap 1 = 1 := by decide
          have hw0 : IntKind.i64.wrap 0 = 0 := by decide
          refine J.J_begin (fun wz => wz.cell? ⟨R10, 0, none⟩ = some v' ∧ wz.cell? ⟨R9, 1, none⟩ = some m.pv1) 13 (by kernel_rfl) ⟨by kernel_rfl, by kernel_rfl, by kernel_rfl⟩ ⟨(blk_cell ((HAN.out 1).hold 9 _ rfl) 0).trans rfl, (blk_cell ((HAN.out 1).hold 8 _ rfl) 1).trans rfl⟩ (fun LAST HS => ?_)
          refine J.J_take (i := 0) (v := ?_) LAST (by rfl) (by decide) (by kernel_rfl) (by kernel_rfl) (by intro _ _ _ h; exact h) HS (Or.inl ⟨by rfl, ?_⟩) ?_
          rotate_left
          · intro w hSw; (try dsimp only at hSw); go_simp; try with_reducible rfl
          try simp only [Act.put, List.setIfInBounds_toArray, List.set_cons_zero, List.set_cons_succ]
          refine J.J_one (i := 1) (by rfl) (by decide) (by kernel_rfl) (fun KK hK => ?_)
          go_simp
          refine IDL.out.mono ?_
          rintro e w4 ⟨rfl, rfl⟩
          rw [HKN.out]
          go_wp2_with fail
          refine hK.out _ _ HS ?_
          clear hK KK
          try simp only [List.setIfInBounds_toArray]
          refine J.J_take (i := 2) (v := ?_) LAST (by rfl) (by decide) (by kernel_rfl) (by kernel_rfl) (by intro _ _ _ h; exact h) HS (Or.inl ⟨by rfl, ?_⟩) ?_
          rotate_left
          · intro w hSw; (try dsimp only at hSw); go_simp; try with_reducible rfl
          try simp only [Act.put, List.setIfInBounds_toArray, List.set_cons_zero, List.set_cons_succ]
          refine J.J_take (i := 3) (v := ?_) LAST (by rfl) (by decide) (by kernel_rfl) (by kernel_rfl) (by intro _ _ _ h; exact h) HS (Or.inl ⟨by rfl, ?_⟩) ?_
          rotate_left
          · intro w hSw; (try dsimp only at hSw); go_simp; try with_reducible rfl
          try simp only [Act.put, List.setIfInBounds_toArray, List.set_cons_zero, List.set_cons_succ]
          refine J.J_take (i := 4) (v := ?_) LAST (by rfl) (by decide) (by kernel_rfl) (by kernel_rfl) (by intro _ _ _ h; exact h) HS (Or.inl ⟨by rfl, ?_⟩) ?_
          rotate_left
          · intro w hSw; (try dsimp only at hSw); go_simp; try with_reducible rfl
          try simp only [Act.put, List.setIfInBounds_toArray, List.set_cons_zero, List.set_cons_succ]
          refine J.J_take (i := 5) (v := ?_) LAST (by rfl) (by decide) (by kernel_rfl) (by kernel_rfl) (by intro _ _ _ h; exact h) HS (Or.inl ⟨by rfl, ?_⟩) ?_
          rotate_left
          · intro w hSw; (try dsimp only at hSw); go_simp; try with_reducible rfl
          try simp only [Act.put, List.setIfInBounds_toArray, List.set_cons_zero, List.set_cons_succ]
          refine J.J_take (i := 6) (v := ?_) LAST (by rfl) (by decide) (by kernel_rfl) (by kernel_rfl) (by intro _ _ _ h; exact h) HS (Or.inl ⟨by rfl, ?_⟩) ?_
          rotate_left
          · intro w hSw; (try dsimp only at hSw); go_simp; try with_reducible rfl
          try simp only [Act.put, List.setIfInBounds_toArray, List.set_cons_zero, List.set_cons_succ]
          refine J.J_take (i := 7) (v := ?_) LAST (by rfl) (by decide) (by kernel_rfl) (by kernel_rfl) (by intro _ _ _ h; exact h) HS (Or.inl ⟨by rfl, ?_⟩) ?_
          rotate_left
          · intro w hSw; (try dsimp only at hSw); go_simp; try with_reducible rfl
          try simp only [Act.put, List.setIfInBounds_toArray, List.set_cons_zero, List.set_cons_succ]
          refine J.J_take (i := 8) (v := ?_) LAST (by rfl) (by decide) (by kernel_rfl) (by kernel_rfl) (by intro _ _ _ h; exact h) HS (Or.inl ⟨by rfl, ?_⟩) ?_
          rotate_left
          · intro w hSw; (try dsimp only at hSw); go_simp; try with_reducible rfl
          try simp only [Act.put, List.setIfInBounds_toArray, List.set_cons_zero, List.set_cons_succ]
          refine J.J_take (i := 9) (v := ?_) LAST (by rfl) (by decide) (by kernel_rfl) (by kernel_rfl) (by intro _ _ _ h; exact h) HS (Or.inl ⟨by rfl, ?_⟩) ?_
          rotate_left
          · intro w hSw; (try dsimp only at hSw); go_simp; try with_reducible rfl
          try simp only [Act.put, List.setIfInBounds_toArray, List.set_cons_zero, List.set_cons_succ]
          refine J.J_take (i := 10) (v := ?_) LAST (by rfl) (by decide) (by kernel_rfl) (by kernel_rfl) (by intro _ _ _ h; exact h) HS (Or.inl ⟨by rfl, ?_⟩) ?_
          rotate_left
          · intro w hSw; (try dsimp only at hSw); go_simp; try with_reducible rfl
          try simp only [Act.put, List.setIfInBounds_toArray, List.set_cons_zero, List.set_cons_succ]
          refine J.J_one (i := 11) (by rfl) (by decide) (by kernel_rfl) (fun KK hK => ?_)
          go_simp
          refine EQ.out.mono ?_
          rintro e w4 ⟨rfl, rfl⟩
          go_wp2_with fail
          refine hK.out _ _ HS ?_
          clear hK KK
          try simp only [List.setIfInBounds_toArray]
          refine J.J_take (i := 12) (v := ?_) LAST (by rfl) (by decide) (by kernel_rfl) (by kernel_rfl) (by intro _ _ _ h; exact h) HS (Or.inl ⟨by rfl, ?_⟩) ?_
          rotate_left
          · intro w hSw; (try dsimp only at hSw); go_simp; try with_reducible rfl
          try simp only [Act.put, List.setIfInBounds_toArray, List.set_cons_zero, List.set_cons_succ]
          refine J.J_last (by rfl) (by kernel_rfl) (by kernel_rfl) ?_
          go_simp
          go_wp2_with fail
          go_roundg 1
          case measure => have := Hd2.out; omega
          case rel => exact ⟨0 + 1, { m with F0 := F', x := egot m.x, gv0 := v', G0 := m.G0 ++ m.x.read }, by go_num, by omega, hid (by omega), hid (HAN.out 1), hid ⟨HK.out.1.gotten, HK.out.2.1, HK.out.2.2.1, by show m.G0 ++ m.x.read ++ [] = m.A1; rw [List.append_nil]; exact HK.out.2.2.2.1, HK.out.2.2.2.2⟩, HF, hid (HU2.out.drewN 1)⟩
        · have HAN : Hid (∀ k, All w1.heap.size (wr.drewN k) (m.law gx gy R9 R10 ES)) := hid (fun k => HA.out.new ((Upd.refl [] wr).drewN k))
          go_upto_region 25 with (fail)
          clear c11a c11b
          go_cut [] from 83 to 90 (fun wx => ∃ F' v', All w1.heap.size wx (({ m with F1 := F', y := egot m.y, gv1 := v', G1 := m.G1 ++ m.y.read } : PM).law gx gy R9 R10 ES) ∧ Upd [] w wx)
          case first =>
            refine J.J_begin (fun wz => wz.cell? ⟨R10, 1, none⟩ = some m.gv1) 8 (by kernel_rfl) ⟨by kernel_rfl, by kernel_rfl, by kernel_rfl⟩ ((blk_cell ((HAN.out 1).hold 9 _ rfl) 1).trans rfl) (fun LAST HS => ?_)
            refine J.J_take (i := 0) (v := ?_) LAST (by rfl) (by decide) (by kernel_rfl) (by kernel_rfl) (by intro _ _ _ h; exact h) HS (Or.inl ⟨by rfl, ?_⟩) ?_
            rotate_left
            · intro w hSw; (try dsimp only at hSw); go_simp; try with_reducible rfl
            try simp only [Act.put, List.setIfInBounds_toArray, List.set_cons_zero, List.set_cons_succ]
            refine J.J_take (i := 1) (v := ?_) LAST (by rfl) (by decide) (by kernel_rfl) (by kernel_rfl) (by intro _ _ _ h; exact h) HS (Or.inl ⟨by rfl, ?_⟩) ?_
            rotate_left
            · intro w hSw; (try dsimp only at hSw); go_simp; try with_reducible rfl
            try simp only [Act.put, List.setIfInBounds_toArray, List.set_cons_zero, List.set_cons_succ]
            refine J.J_take (i := 2) (v := ?_) LAST (by rfl) (by decide) (by kernel_rfl) (by kernel_rfl) (by intro _ _ _ h; exact h) HS (Or.inl ⟨by rfl, ?_⟩) ?_
            rotate_left
            · intro w hSw; (try dsimp only at hSw); go_simp; try with_reducible rfl
            try simp only [Act.put, List.setIfInBounds_toArray, List.set_cons_zero, List.set_cons_succ]
            refine J.J_take (i := 3) (v := ?_) LAST (by rfl) (by decide) (by kernel_rfl) (by kernel_rfl) (by intro _ _ _ h; exact h) HS (Or.inl ⟨by rfl, ?_⟩) ?_
            rotate_left
            · intro w hSw; (try dsimp only at hSw); go_simp; try with_reducible rfl
            try simp only [Act.put, List.setIfInBounds_toArray, List.set_cons_zero, List.set_cons_succ]
            refine J.J_take (i := 4) (v := ?_) LAST (by rfl) (by decide) (by kernel_rfl) (by kernel_rfl) (by intro _ _ _ h; exact h) HS (Or.inl ⟨by rfl, ?_⟩) ?_
            rotate_left
            · intro w hSw; (try dsimp only at hSw); go_simp; try with_reducible rfl
            try simp only [Act.put, List.setIfInBounds_toArray, List.set_cons_zero, List.set_cons_succ]
            refine J.J_one (i := 5) (by rfl) (by decide) (by kernel_rfl) (fun KK hK => ?_)
            go_simp
            refine (a_got (HAN.out 1) (i := 1) rfl).mono ?_
            rintro e w4 ⟨F', v, rs, rfl, ow, bs, ha, hu⟩
            have HA4 := hid ha
            have HU4 := hid (All.after (HU.out.drewN 1) (HAN.out 1) (i := 1) rfl hu hB)
            obtain ⟨gs, og, bg⟩ := ha.hold 5 _ rfl
            obtain ⟨ng, hng⟩ : ∃ ng, ng = m.G1.length := ⟨_, rfl⟩
            obtain ⟨nr, hnr⟩ : ∃ nr, nr = m.y.read.length := ⟨_, rfl⟩
            have OG : Hid (w4.ownsRow 0 29 1 m.gv1 ng gs) := hid (by rw [hng]; exact og)
            have OR : Hid (w4.ownsRow 0 29 1 v nr rs) := hid (by rw [hnr]; exact ow)
            have BG := hid bg
            have BR := hid bs
            have HNG := hid hng
            have HNR := hid hnr
            have hlen : ng + nr ≤ 300 := by
              obtain ⟨f1, f2⟩ := HF.out
              have h1 := congrArg List.length (HII.out.swap.yx.got)
              simp only [List.length_append, List.length_take] at h1
              omega
            have HS1 : w4.cell? ⟨R10, 1, none⟩ = some m.gv1 := (blk_cell (ha.hold 9 _ rfl) 1).trans rfl
            obtain ⟨va, vk, ev, -⟩ := own_view OR.out
            subst ev
            clear ha hu ow bs og bg hng hnr
            go_wp2_with fail
            refine hK.out _ _ HS1 ?_
            clear hK KK HS
            try simp only [List.setIfInBounds_toArray]
            refine J.J_one (i := 6) (by rfl) (by decide) (by kernel_rfl) (fun KK hK => ?_)
            refine step_app_row rfl (.tmp 86) (.tmp 88) 37 rfl 29 i29 _ 1 24 Try.underlying37 HI29.out HA29.out HB29.out HC29.out rfl (by decide) m.gv1 ng gs (by rfl) OG.out (.slice va nr vk) nr 0 rs (by rfl) OR.out BR.out.ones (by unfold maxLen; omega) (by omega) ?_
            intro v5 w5 ho hu5 hl5
            obtain ⟨a5, k5, e5, -⟩ := own_view ho
            subst e5
            have HU5 := hid hu5
            have al5 := HA4.out.set (i := 5) (a' := rowI (.slice a5 (ng + nr) k5) (m.G1 ++ m.y.read)) rfl hu5 ⟨_, by rw [List.length_append, ← HNG.out, ← HNR.out]; exact ho, (BG.out.upd hu5 (fun s hs => Itm.nob _ (HA4.out.hold 5 _ rfl) s hs)).append (BR.out.upd hu5 (fun s hs => Itm.nob _ (HA4.out.hold 5 _ rfl) s hs))⟩ (fun s hs => (hl5 s (by simpa [rowI] using hs)).imp (fun q => by simpa [rowI] using q) id)
            have AL5 := hid al5
            have c9 := al5.hold 9 _ rfl
            have HS5 : w5.cell? ⟨R10, 1, none⟩ = some m.gv1 := (blk_cell c9 1).trans rfl
            have c9f := blk_frozen c9
            clear ho hu5 hl5 al5 c9
            refine hK.out _ _ HS5 ?_
            clear hK KK HS1
            try simp only [Act.put, List.setIfInBounds_toArray, List.set_cons_zero, List.set_cons_succ]
            refine J.J_take (i := 7) (v := ?_) LAST (by rfl) (by decide) (by kernel_rfl) (by kernel_rfl) (by intro _ _ _ h; exact h) HS5 (Or.inl ⟨by rfl, ?_⟩) ?_
            rotate_left
            · intro w hSw; (try dsimp only at hSw); go_simp; try with_reducible rfl
            try simp only [Act.put, List.setIfInBounds_toArray, List.set_cons_zero, List.set_cons_succ]
            refine J.J_last (by rfl) (by kernel_rfl) (by kernel_rfl) ?_
            go_simp
            go_wp2_with fail
            go_meet
            have u6 : Upd [R10] w5 (w5.setCell ⟨R10, 1, none⟩ (.slice a5 (ng + nr) k5)) := (Upd.refl _ _).setCell (.inl (by simp)) _
            have A6 := AL5.out.set (i := 9) (a' := blkI R10 #[m.gv0, .slice a5 (ng + nr) k5] 46 (by decide)) rfl u6 (blk_set (AL5.out.hold 9 _ rfl) 1 _) (Fresh.refl _ _)
            exact ⟨F', .slice a5 (ng + nr) k5, A6, All.after (All.after HU4.out HA4.out (i := 5) rfl HU5.out hB) AL5.out (i := 9) rfl u6 hB⟩
          obtain ⟨F', v', ha, hu⟩ := hcut
          have HA2 := hid ha
          have HU2 := hid hu
          clear ha hu HAN HA HU
          have HAN : Hid (∀ k, All w1.heap.size (wc.drewN k) (({ m with F1 := F', y := egot m.y, gv1 := v', G1 := m.G1 ++ m.y.read } : PM).law gx gy R9 R10 ES)) := hid (fun k => HA2.out.new ((Upd.refl [] wc).drewN k))
          have IDL := hid (idle_any ((HAN.out 1).hold 1 _ rfl))
          have HKN : Hid (decide (({ m with F1 := F', y := egot m.y, gv1 := v', G1 := m.G1 ++ m.y.read } : PM).y.kept.length = 0) = true) := hid (by show decide (m.y.kept.length = 0) = true; rw [HK.out.2.2.1]; rfl)
          obtain ⟨gs, og, bg⟩ := (HAN.out 1).hold 5 _ rfl
          obtain ⟨ps, op, bp⟩ := (HAN.out 1).hold 2 _ rfl
          obtain ⟨nq, hnq⟩ : ∃ nq, nq = m.A0.length := ⟨_, rfl⟩
          have hgl : (m.G1 ++ m.y.read).length = nq := by rw [HK.out.2.2.2.2, hnq]
          have EQ := hid (eqf_own (w := wc.drewN 1) (A := m.A0) (n := nq) (v := v') (u := m.pv0) hnq (by rw [← hgl]; exact og) (by rw [hnq]; exact op) (by rw [← HK.out.2.2.2.2]; exact bg) bp (by rw [hnq]; obtain ⟨f1, f2⟩ := HF.out; omega))
          clear og bg op bp hnq hgl
          go_upto_region 26 with (fail)
          have hw1 : IntKind.i64.wrap 1 = 1 := by decide
          have hw0 : IntKind.i64.wrap 0 = 0 := by decide
          refine J.J_begin (fun wz => wz.cell? ⟨R10, 1, none⟩ = some v' ∧ wz.cell? ⟨R9, 0, none⟩ = some m.pv0) 13 (by kernel_rfl) ⟨by kernel_rfl, by kernel_rfl, by kernel_rfl⟩ ⟨(blk_cell ((HAN.out 1).hold 9 _ rfl) 1).trans rfl, (blk_cell ((HAN.out 1).hold 8 _ rfl) 0).trans rfl⟩ (fun LAST HS => ?_)
          refine J.J_take (i := 0) (v := ?_) LAST (by rfl) (by decide) (by kernel_rfl) (by kernel_rfl) (by intro _ _ _ h; exact h) HS (Or.inl ⟨by rfl, ?_⟩) ?_
          rotate_left
          · intro w hSw; (try dsimp only at hSw); go_simp; try with_reducible rfl
          try simp only [Act.put, List.setIfInBounds_toArray, List.set_cons_zero, List.set_cons_succ]
          refine J.J_one (i := 1) (by rfl) (by decide) (by kernel_rfl) (fun KK hK => ?_)
          go_simp
          refine IDL.out.mono ?_
          rintro e w4 ⟨rfl, rfl⟩
          rw [HKN.out]
          go_wp2_with fail
          refine hK.out _ _ HS ?_
          clear hK KK
          try simp only [List.setIfInBounds_toArray]
          refine J.J_take (i := 2) (v := ?_) LAST (by rfl) (by decide) (by kernel_rfl) (by kernel_rfl) (by intro _ _ _ h; exact h) HS (Or.inl ⟨by rfl, ?_⟩) ?_
          rotate_left
          · intro w hSw; (try dsimp only at hSw); go_simp; try with_reducible rfl
          try simp only [Act.put, List.setIfInBounds_toArray, List.set_cons_zero, List.set_cons_succ]
          refine J.J_take (i := 3) (v := ?_) LAST (by rfl) (by decide) (by kernel_rfl) (by kernel_rfl) (by intro _ _ _ h; exact h) HS (Or.inl ⟨by rfl, ?_⟩) ?_
          rotate_left
          · intro w hSw; (try dsimp only at hSw); go_simp; try with_reducible rfl
          try simp only [Act.put, List.setIfInBounds_toArray, List.set_cons_zero, List.set_cons_succ]
          refine J.J_take (i := 4) (v := ?_) LAST (by rfl) (by decide) (by kernel_rfl) (by kernel_rfl) (by intro _ _ _ h; exact h) HS (Or.inl ⟨by rfl, ?_⟩) ?_
          rotate_left
          · intro w hSw; (try dsimp only at hSw); go_simp; try with_reducible rfl
          try simp only [Act.put, List.setIfInBounds_toArray, List.set_cons_zero, List.set_cons_succ]
          refine J.J_take (i := 5) (v := ?_) LAST (by rfl) (by decide) (by kernel_rfl) (by kernel_rfl) (by intro _ _ _ h; exact h) HS (Or.inl ⟨by rfl, ?_⟩) ?_
          rotate_left
          · intro w hSw; (try dsimp only at hSw); go_simp; try with_reducible rfl
          try simp only [Act.put, List.setIfInBounds_toArray, List.set_cons_zero, List.set_cons_succ]
          refine J.J_take (i := 6) (v := ?_) LAST (by rfl) (by decide) (by kernel_rfl) (by kernel_rfl) (by intro _ _ _ h; exact h) HS (Or.inl ⟨by rfl, ?_⟩) ?_
          rotate_left
          · intro w hSw; (try dsimp only at hSw); go_simp; try with_reducible rfl
          try simp only [Act.put, List.setIfInBounds_toArray, List.set_cons_zero, List.set_cons_succ]
          refine J.J_take (i := 7) (v := ?_) LAST (by rfl) (by decide) (by kernel_rfl) (by kernel_rfl) (by intro _ _ _ h; exact h) HS (Or.inl ⟨by rfl, ?_⟩) ?_
          rotate_left
          · intro w hSw; (try dsimp only at hSw); go_simp; try with_reducible rfl
          try simp only [Act.put, List.setIfInBounds_toArray, List.set_cons_zero, List.set_cons_succ]
          refine J.J_take (i := 8) (v := ?_) LAST (by rfl) (by decide) (by kernel_rfl) (by kernel_rfl) (by intro _ _ _ h; exact h) HS (Or.inl ⟨by rfl, ?_⟩) ?_
          rotate_left
          · intro w hSw; (try dsimp only at hSw); go_simp; try with_reducible rfl
          try simp only [Act.put, List.setIfInBounds_toArray, List.set_cons_zero, List.set_cons_succ]
          refine J.J_take (i := 9) (v := ?_) LAST (by rfl) (by decide) (by kernel_rfl) (by kernel_rfl) (by intro _ _ _ h; exact h) HS (Or.inl ⟨by rfl, ?_⟩) ?_
          rotate_left
          · intro w hSw; (try dsimp only at hSw); go_simp; try with_reducible rfl
          try simp only [Act.put, List.setIfInBounds_toArray, List.set_cons_zero, List.set_cons_succ]
          refine J.J_take (i := 10) (v := ?_) LAST (by rfl) (by decide) (by kernel_rfl) (by kernel_rfl) (by intro _ _ _ h; exact h) HS (Or.inl ⟨by rfl, ?_⟩) ?_
          rotate_left
          · intro w hSw; (try dsimp only at hSw); go_simp; try with_reducible rfl
          try simp only [Act.put, List.setIfInBounds_toArray, List.set_cons_zero, List.set_cons_succ]
          refine J.J_one (i := 11) (by rfl) (by decide) (by kernel_rfl) (fun KK hK => ?_)
          go_simp
          refine EQ.out.mono ?_
          rintro e w4 ⟨rfl, rfl⟩
          go_wp2_with fail
          refine hK.out _ _ HS ?_
          clear hK KK
          try simp only [List.setIfInBounds_toArray]
          refine J.J_take (i := 12) (v := ?_) LAST (by rfl) (by decide) (by kernel_rfl) (by kernel_rfl) (by intro _ _ _ h; exact h) HS (Or.inl ⟨by rfl, ?_⟩) ?_
          rotate_left
          · intro w hSw; (try dsimp only at hSw); go_simp; try with_reducible rfl
          try simp only [Act.put, List.setIfInBounds_toArray, List.set_cons_zero, List.set_cons_succ]
          refine J.J_last (by rfl) (by kernel_rfl) (by kernel_rfl) ?_
          go_simp
          go_wp2_with fail
          go_roundg 0
          case measure => have := Hd2.out; omega
          case rel => exact ⟨1 + 1, { m with F1 := F', y := egot m.y, gv1 := v', G1 := m.G1 ++ m.y.read }, by go_num, by omega, hid (by omega), hid (HAN.out 1), hid ⟨HK.out.1.swap.gotten.swap, HK.out.2.1, HK.out.2.2.1, HK.out.2.2.2.1, by show m.G1 ++ m.y.read ++ [] = m.A0; rw [List.append_nil]; exact HK.out.2.2.2.2⟩, HF, hid (HU2.out.drewN 1)⟩
        · go_wp2_with fail
          go_ret
          exact ⟨rfl, HU.out⟩
end Go.Proofs.Ytgkjkgooonicbaa.Lm
