/- A world of weights: Drop. -/
import Derived.Test.YtmdhhembkmkfdaaWn
import Derived.Deep.CutRange
import Derived.Test.YtmdhhembkmkfdaaJ
namespace Go.Proofs.Ytmdhhembkmkfdaa.Wt
open Go Go.RowKit Go.Proofs.Ytmdhhembkmkfdaa.K Go.Proofs.Ytmdhhembkmkfdaa.M Go.Proofs.Ytmdhhembkmkfdaa.O

/-- 'append' onto a row of the call's own, as a step law of a region that draws. -/
theorem step_app {P : Program} {W : World} {ops : Array Oper} {o : Oper} {a : Act} {K : Act → World → Prop} {Q : Exit → Act → World → Prop} {E : Prop} (hgd : o.guard = none) (s x : Operand) (t : TypeId)
    (ho : o.op = .call { callee := .builtin .append, args := #[s, x], argTypes := #[t, t] })
    (base : Nat) (e : TypeId) (i : TypeInfo) (z : Value) (size bytes : Nat) (ht : P.underlying t = some (.slice e)) (hi : P.info? e = some i) (hz : i.zero = some z)
    (hsize : i.size = size) (hby : i.bytes = bytes) (hzs : z.cells.size = size) (hsz : 0 < size)
    (v : Value) (n : Nat) (xs : List Value) (hs : a.eval s = v) (hown : W.ownsRow base e size v n xs)
    (ad : Addr) (m c : Nat) (news : List Value) (hx : a.eval x = .slice (some ad) m c) (hl : news.length = m * size) (hnews : ∀ j u, news[j]? = some u → W.cell? (ad.add j) = some u) (h1 : ∀ u ∈ news, u.oneCell' = true)
    (h63 : n + m ≤ maxLen) (hbytes : (n + m) * bytes ≤ 140737488355328) (hbase : base ≤ W.heap.size)
    (hK : ∀ v' w', w'.ownsRow base e size v' (n + m) (xs ++ news) → Upd v.ownBlock.toList W w' → K (a.put o.dst v') w') :
    if Region.wanted o (yielded ops a.tmps) = true then Oper.wp P o a W K Q else E := by
  have hw : Region.wanted o (yielded ops a.tmps) = true := by simp [Region.wanted, hgd]
  rw [if_pos hw]
  obtain ⟨v', w', hr, h2, h3, -, -⟩ := run_append_own_at (P := P) W base t o.type e i z size bytes ht hi hz hsize hby hzs hsz v n xs hown ad m c news hl hnews h1 h63 hbytes hbase
  unfold Oper.wp execOp
  simp only [ho, resolve, invoke, builtin, Sem.run_bind, Sem.run_pure, Result.andThen_ok, List.map_toArray, List.map_cons, List.map_nil, hs, hx, hr]
  exact hK _ _ h2 ((Upd.refl _ W).grown h3 (fun k hk => .inl (by simp [hk])))
/-- What Drop leaves. -/
def dropped (s : Wd) (n t : Nat) : Wd := { s with has := fun k => if k = n then at1 (s.has n) t 0 else s.has k, way := s.way ++ [⟨(s.things.getD t noThing).home, t, s.has n t, true⟩] }

set_option maxHeartbeats 4000000 in
set_option maxRecDepth 100000 in
theorem drop_yes {w : World} {B g : Nat} {s : Wd} {v1 v2 v3 : Value} {bs : List Nat} (h : IsW w B g s v1 v2 v3 bs) (n t : Nat) (hk : chk s n t = 0) (hw : s.way.length < 60) :
    Calls Try.prog 50 #[.pointer (some ⟨g, 0, none⟩), .int .i64 (n : Int), .int .i64 (t : Int)] w fun e w' => e = .returned (.int .i64 0) ∧ (∃ v3', IsW w' B g (dropped s n t) v1 v2 v3' bs) ∧ Old B w w' := by
  obtain ⟨i92, hi92, hz92a, hz92b, hz92c⟩ := info_parts info92
  have HI92 := hid hi92
  have HA92 := hid hz92a
  have HB92 := hid hz92b
  have HC92 := hid hz92c
  clear hi92 hz92a hz92b hz92c
  obtain ⟨c0, c1, c2, c3, cf⟩ := h.c0
  have ck := check_any h n t
  have hnt : n < s.nodes ∧ t < s.things.length := by
    by_cases q : n < s.nodes ∧ t < s.things.length
    · exact q
    · unfold chk at hk; rw [if_neg q] at hk; cases hk
  rw [hk] at ck
  obtain ⟨hn, ht⟩ := hnt
  obtain ⟨g2, k2, e2, d2, l3, l4⟩ := h.ptr hn
  obtain ⟨g1, k1, e1, t0, -, -, -, l1, l2⟩ := h.thing ht
  obtain ⟨a3, k3, e3, l5, l6⟩ := h.len3
  obtain ⟨hB, m, hm, hnd, hf⟩ := h.maps n hn
  obtain ⟨b, hbb⟩ : ∃ b, b = bs.getD n 0 := ⟨_, rfl⟩
  obtain ⟨x, hx⟩ : ∃ x, x = s.has n t := ⟨_, rfl⟩
  obtain ⟨o, ho⟩ : ∃ o, o = (s.things.getD t noThing).home := ⟨_, rfl⟩
  obtain ⟨p, hp⟩ : ∃ p, p = s.way.length := ⟨_, rfl⟩
  obtain ⟨q, hq⟩ : ∃ q, q = s.things.length := ⟨_, rfl⟩
  have lk := (run_look (P := Try.prog) (w := w.drew) (hm.drewN 1) Try.underlying88 Try.underlying3 (Try.zeroValue3 _) (t : Int)).1
  rw [hf t, ← hx, ← hbb] at lk
  rw [← hbb] at d2
  rw [← ho] at t0
  rw [e2] at c2
  rw [e1, ← hq] at c1
  rw [e3, ← hp] at c3
  rw [← hp] at l5 hw
  rw [← hq] at l1
  have hn' : (n : Int) < (s.nodes : Int) := by omega
  have ht' : (t : Int) < (q : Int) := by omega
  have q2 : ((p : Int) == 60) = false := by rw [beq_eq_false_iff_ne]; omega
  have gl := World.block_lt_of_cell? w _ c0
  simp only at gl
  have OW : Hid (w.ownsRow B 92 4 (.slice a3 p k3) p (wayCells s.way)) := by have := h.way; rw [e3, ← hp] at this; exact this
  have H := hid h
  have HM := hid hm
  have HF := hid hf
  have HN := hid hnd
  have HBB := hid hbb
  have HX := hid hx
  have HO := hid ho
  have HP := hid hp
  have HQ := hid hq
  have HV3 := hid e3
  have HV1 := hid e1
  have HV2 := hid e2
  have NN := hid hn
  have HBe := hid hB
  clear h hk hm hf hnd hbb hx ho hp hq hn ht hB e1 e2 e3
  go_enter Try.func50, Try.ntmps50
  go_wp2_with fail
  refine ck.mono ?_
  rintro e w' ⟨rfl, rfl⟩
  clear ck
  go_upto_region 6 with (fail)
  have NG : Hid (g ∉ (Value.slice a3 p k3).ownBlock.toList ∧ g1 ∉ (Value.slice a3 p k3).ownBlock.toList ∧ g2 ∉ (Value.slice a3 p k3).ownBlock.toList ∧ b ∉ (Value.slice a3 p k3).ownBlock.toList ∧ g1 ≠ g ∧ g2 ≠ g ∧ b ≠ g) := by
    have hb := H.out.blk
    have hm := HM.out
    rw [← HBB.out] at hm
    have t0w := H.out.things
    rw [HV1.out] at t0w
    have t2w := H.out.has
    rw [HV2.out] at t2w
    refine hid ⟨not_mem_own (fun x hx => own_cells_ne OW.out hb (by decide) x hx), not_mem_own (fun x hx e => own_own_ne OW.out t0w (by decide) x hx g1 rfl e), not_mem_own (fun x hx e => own_own_ne OW.out t2w (by decide) x hx g2 rfl e), not_mem_own (fun x hx => own_map_ne OW.out hm x hx), own_cells_ne t0w hb (by decide) g1 rfl, own_cells_ne t2w hb (by decide) g2 rfl, hm.ne_cells hb⟩
  have KEEP : Hid (∀ wz, Upd (Value.slice a3 p k3).ownBlock.toList w' wz → wz.cell? ⟨g, 3, none⟩ = some (.slice a3 p k3) ∧ wz.cell? ⟨g, 1, none⟩ = some (.slice (some ⟨g1, 0, none⟩) q k1) ∧ wz.cell? ⟨g1, t * 3, none⟩ = some (.int .i64 (o : Int)) ∧ wz.cell? ⟨g, 2, none⟩ = some (.slice (some ⟨g2, 0, none⟩) s.nodes k2) ∧ wz.cell? ⟨g2, n, none⟩ = some (.map (some b)) ∧ (Instr.lookup 88 (.map (some b)) (.int .i64 (t : Int)) false).run Try.prog wz = .ok (.int .i64 (x : Int)) wz) := hid (fun wz u => by
    obtain ⟨n1, n2, n3, n4, n5, n6, n7⟩ := NG.out
    refine ⟨u.cell c3 n1, u.cell c1 n1, u.cell t0 n2, u.cell c2 n1, u.cell d2 n3, ?_⟩
    have hm := HM.out
    rw [← HBB.out] at hm
    have l1 := (run_look (P := Try.prog) (hm.upd u n4) Try.underlying88 Try.underlying3 (Try.zeroValue3 _) (t : Int)).1
    rw [HF.out t, ← HX.out] at l1
    exact l1)
  have gl2 := hid gl
  clear lk
  go_cut [] from 21 to 48 (fun wx => ∃ v3' w2, wx = w2.setCell ⟨g, 3, none⟩ v3' ∧ w2.ownsRow B 92 4 v3' (p + 1) (wayCells (s.way ++ [⟨o, t, x, true⟩])) ∧ Upd (Value.slice a3 p k3).ownBlock.toList w' w2)
  case first =>
    refine J.J_begin (fun wz => wz.cell? ⟨g, 3, none⟩ = some (.slice a3 p k3) ∧ wz.cell? ⟨g, 1, none⟩ = some (.slice (some ⟨g1, 0, none⟩) q k1) ∧ wz.cell? ⟨g1, t * 3, none⟩ = some (.int .i64 (o : Int)) ∧ wz.cell? ⟨g, 2, none⟩ = some (.slice (some ⟨g2, 0, none⟩) s.nodes k2) ∧ wz.cell? ⟨g2, n, none⟩ = some (.map (some b)) ∧ (Instr.lookup 88 (.map (some b)) (.int .i64 (t : Int)) false).run Try.prog wz = .ok (.int .i64 (x : Int)) wz) 28 (by kernel_rfl) ⟨by kernel_rfl, by kernel_rfl, by kernel_rfl⟩ (KEEP.out _ ((Upd.refl _ w').drew)) (fun LAST HS => ?_)
    refine J.J_take (i := 0) (v := ?_) LAST (by rfl) (by decide) (by kernel_rfl) (by kernel_rfl) (by intro _ _ _ h; exact h) HS (Or.inl ⟨by rfl, ?_⟩) ?_
    rotate_left
    · intro w hSw; (try dsimp only at hSw); go_simp; try with_reducible rfl
    try simp only [Act.put, List.setIfInBounds_toArray, List.set_cons_zero, List.set_cons_succ]
    refine J.J_take (i := 1) (v := ?_) LAST (by rfl) (by decide) (by kernel_rfl) (by kernel_rfl) (by intro _ _ _ h; exact h) HS (Or.inl ⟨by rfl, ?_⟩) ?_
    rotate_left
    · intro w hSw; (try dsimp only at hSw); go_simp; try with_reducible rfl
    try simp only [Act.put, List.setIfInBounds_toArray, List.set_cons_zero, List.set_cons_succ]
    refine J.J_take (i := 2) (v := ?_) LAST (by rfl) (by decide) (by kernel_rfl) (by kernel_rfl) (by intro _ _ _ h; exact h) HS (Or.inl ⟨by rfl, ?_⟩) ?_
    rotate_left
    · intro w hSw; (try dsimp only at hSw); go_simp; try with_reducible rfl
    try simp only [Act.put, List.setIfInBounds_toArray, List.set_cons_zero, List.set_cons_succ]
    refine J.J_take (i := 3) (v := ?_) LAST (by rfl) (by decide) (by kernel_rfl) (by kernel_rfl) (by intro _ _ _ h; exact h) HS (Or.inl ⟨by rfl, ?_⟩) ?_
    rotate_left
    · intro w hSw; (try dsimp only at hSw); go_simp; try with_reducible rfl
    try simp only [Act.put, List.setIfInBounds_toArray, List.set_cons_zero, List.set_cons_succ]
    refine J.J_take (i := 4) (v := ?_) LAST (by rfl) (by decide) (by kernel_rfl) (by kernel_rfl) (by intro _ _ _ h; exact h) HS (Or.inl ⟨by rfl, ?_⟩) ?_
    rotate_left
    · intro w hSw; (try dsimp only at hSw); go_simp; try with_reducible rfl
    try simp only [Act.put, List.setIfInBounds_toArray, List.set_cons_zero, List.set_cons_succ]
    refine J.J_take (i := 5) (v := ?_) LAST (by rfl) (by decide) (by kernel_rfl) (by kernel_rfl) (by intro _ _ _ h; exact h) HS (Or.inl ⟨by rfl, ?_⟩) ?_
    rotate_left
    · intro w hSw; (try dsimp only at hSw); go_simp; try with_reducible rfl
    try simp only [Act.put, List.setIfInBounds_toArray, List.set_cons_zero, List.set_cons_succ]
    refine J.J_take (i := 6) (v := ?_) LAST (by rfl) (by decide) (by kernel_rfl) (by kernel_rfl) (by intro _ _ _ h; exact h) HS (Or.inl ⟨by rfl, ?_⟩) ?_
    rotate_left
    · intro w hSw; (try dsimp only at hSw); go_simp; try with_reducible rfl
    try simp only [Act.put, List.setIfInBounds_toArray, List.set_cons_zero, List.set_cons_succ]
    refine J.J_take (i := 7) (v := ?_) LAST (by rfl) (by decide) (by kernel_rfl) (by kernel_rfl) (by intro _ _ _ h; exact h) HS (Or.inl ⟨by rfl, ?_⟩) ?_
    rotate_left
    · intro w hSw; (try dsimp only at hSw); go_simp; try with_reducible rfl
    try simp only [Act.put, List.setIfInBounds_toArray, List.set_cons_zero, List.set_cons_succ]
    refine J.J_take (i := 8) (v := ?_) LAST (by rfl) (by decide) (by kernel_rfl) (by kernel_rfl) (by intro _ _ _ h; exact h) HS (Or.inl ⟨by rfl, ?_⟩) ?_
    rotate_left
    · intro w hSw; (try dsimp only at hSw); go_simp; try with_reducible rfl
    try simp only [Act.put, List.setIfInBounds_toArray, List.set_cons_zero, List.set_cons_succ]
    refine J.J_take (i := 9) (v := ?_) LAST (by rfl) (by decide) (by kernel_rfl) (by kernel_rfl) (by intro _ _ _ h; exact h) HS (Or.inl ⟨by rfl, ?_⟩) ?_
    rotate_left
    · intro w hSw; (try dsimp only at hSw); go_simp; try with_reducible rfl
    try simp only [Act.put, List.setIfInBounds_toArray, List.set_cons_zero, List.set_cons_succ]
    refine J.J_take (i := 10) (v := ?_) LAST (by rfl) (by decide) (by kernel_rfl) (by kernel_rfl) (by intro _ _ _ h; exact h) HS (Or.inl ⟨by rfl, ?_⟩) ?_
    rotate_left
    · intro w hSw; (try dsimp only at hSw); go_simp; try with_reducible rfl
    try simp only [Act.put, List.setIfInBounds_toArray, List.set_cons_zero, List.set_cons_succ]
    refine J.J_take (i := 11) (v := ?_) LAST (by rfl) (by decide) (by kernel_rfl) (by kernel_rfl) (by intro _ _ _ h; exact h) HS (Or.inl ⟨by rfl, ?_⟩) ?_
    rotate_left
    · intro w hSw; (try dsimp only at hSw); go_simp; try with_reducible rfl
    try simp only [Act.put, List.setIfInBounds_toArray, List.set_cons_zero, List.set_cons_succ]
    refine J.J_take (i := 12) (v := ?_) LAST (by rfl) (by decide) (by kernel_rfl) (by kernel_rfl) (by intro _ _ _ h; exact h) HS (Or.inl ⟨by rfl, ?_⟩) ?_
    rotate_left
    · intro w hSw; (try dsimp only at hSw); go_simp; try with_reducible rfl
    try simp only [Act.put, List.setIfInBounds_toArray, List.set_cons_zero, List.set_cons_succ]
    refine J.J_take (i := 13) (v := ?_) LAST (by rfl) (by decide) (by kernel_rfl) (by kernel_rfl) (by intro _ _ _ h; exact h) HS (Or.inl ⟨by rfl, ?_⟩) ?_
    rotate_left
    · intro w hSw; (try dsimp only at hSw); go_simp; try with_reducible rfl
    try simp only [Act.put, List.setIfInBounds_toArray, List.set_cons_zero, List.set_cons_succ]
    refine J.J_take (i := 14) (v := ?_) LAST (by rfl) (by decide) (by kernel_rfl) (by kernel_rfl) (by intro _ _ _ h; exact h) HS (Or.inl ⟨by rfl, ?_⟩) ?_
    rotate_left
    · intro w hSw; (try dsimp only at hSw); go_simp; try with_reducible rfl
    try simp only [Act.put, List.setIfInBounds_toArray, List.set_cons_zero, List.set_cons_succ]
    refine J.J_take (i := 15) (v := ?_) LAST (by rfl) (by decide) (by kernel_rfl) (by kernel_rfl) (by intro _ _ _ h; exact h) HS (Or.inl ⟨by rfl, ?_⟩) ?_
    rotate_left
    · intro w hSw; (try dsimp only at hSw); go_simp; try with_reducible rfl
    try simp only [Act.put, List.setIfInBounds_toArray, List.set_cons_zero, List.set_cons_succ]
    refine J.J_take (i := 16) (v := ?_) LAST (by rfl) (by decide) (by kernel_rfl) (by kernel_rfl) (by intro _ _ _ h; exact h) HS (Or.inl ⟨by rfl, ?_⟩) ?_
    rotate_left
    · intro w hSw; (try dsimp only at hSw); go_simp; try with_reducible rfl
    try simp only [Act.put, List.setIfInBounds_toArray, List.set_cons_zero, List.set_cons_succ]
    refine J.J_take (i := 17) (v := ?_) LAST (by rfl) (by decide) (by kernel_rfl) (by kernel_rfl) (by intro _ _ _ h; exact h) HS (Or.inl ⟨by rfl, ?_⟩) ?_
    rotate_left
    · intro w hSw; (try dsimp only at hSw); go_simp; try with_reducible rfl
    try simp only [Act.put, List.setIfInBounds_toArray, List.set_cons_zero, List.set_cons_succ]
    refine J.J_take (i := 18) (v := ?_) LAST (by rfl) (by decide) (by kernel_rfl) (by kernel_rfl) (by intro _ _ _ h; exact h) HS (Or.inl ⟨by rfl, ?_⟩) ?_
    rotate_left
    · intro w hSw; (try dsimp only at hSw); go_simp; try with_reducible rfl
    try simp only [Act.put, List.setIfInBounds_toArray, List.set_cons_zero, List.set_cons_succ]
    refine J.J_take (i := 19) (v := ?_) LAST (by rfl) (by decide) (by kernel_rfl) (by kernel_rfl) (by intro _ _ _ h; exact h) HS (Or.inl ⟨by rfl, ?_⟩) ?_
    rotate_left
    · intro w hSw; (try dsimp only at hSw); go_simp; try with_reducible rfl
    try simp only [Act.put, List.setIfInBounds_toArray, List.set_cons_zero, List.set_cons_succ]
    refine J.J_take (i := 20) (v := ?_) LAST (by rfl) (by decide) (by kernel_rfl) (by kernel_rfl) (by intro _ _ _ h; exact h) HS (Or.inl ⟨by rfl, ?_⟩) ?_
    rotate_left
    · intro w hSw; (try dsimp only at hSw); go_simp; try with_reducible rfl
    try simp only [Act.put, List.setIfInBounds_toArray, List.set_cons_zero, List.set_cons_succ]
    refine J.J_take (i := 21) (v := ?_) LAST (by rfl) (by decide) (by kernel_rfl) (by kernel_rfl) (by intro _ _ _ h; exact h) HS (Or.inl ⟨by rfl, ?_⟩) ?_
    rotate_left
    · intro w hSw; (try dsimp only at hSw); go_simp; try with_reducible rfl
    try simp only [Act.put, List.setIfInBounds_toArray, List.set_cons_zero, List.set_cons_succ]
    refine J.J_take (i := 22) (v := ?_) LAST (by rfl) (by decide) (by kernel_rfl) (by kernel_rfl) (by intro _ _ _ h; exact h) HS (Or.inl ⟨by rfl, ?_⟩) ?_
    rotate_left
    · intro w hSw; (try dsimp only at hSw); go_simp; try with_reducible rfl
    try simp only [Act.put, List.setIfInBounds_toArray, List.set_cons_zero, List.set_cons_succ]
    refine J.J_take (i := 23) (v := ?_) LAST (by rfl) (by decide) (by kernel_rfl) (by kernel_rfl) (by intro _ _ _ h; exact h) HS (Or.inl ⟨by rfl, ?_⟩) ?_
    rotate_left
    · intro w hSw; (try dsimp only at hSw); go_simp; try with_reducible rfl
    try simp only [Act.put, List.setIfInBounds_toArray, List.set_cons_zero, List.set_cons_succ]
    refine J.J_one (i := 24) (by rfl) (by decide) (by kernel_rfl) (fun KK hK => ?_)
    go_simp
    refine hK.out _ _ (KEEP.out _ (((Upd.refl _ w').drew).alloc _)) ?_
    clear hK KK
    try simp only [List.setIfInBounds_toArray]
    refine J.J_one (i := 25) (by rfl) (by decide) (by kernel_rfl) (fun KK hK => ?_)
    refine step_app rfl (.tmp 25) (.tmp 45) 70 rfl B 92 i92 _ 4 32 Try.underlying70 HI92.out HA92.out HB92.out HC92.out rfl (by decide) (.slice a3 p k3) p (wayCells s.way) (by rfl) (own_new OW.out (((Upd.refl [] w').drew).alloc _)) ⟨w'.heap.size, 0, none⟩ 1 1 [.int .i64 (o : Int), .int .i64 (t : Int), .int .i64 (x : Int), .bool true] (by rfl) rfl (fun j u hj => by rw [show (⟨w'.heap.size, 0, none⟩ : Addr).add j = ⟨w'.heap.size, j, none⟩ by unfold Addr.add; split <;> simp_all]; refine (K.blk_cell (blk_new _ _) j).trans ?_; simpa using hj) (by intro u hu; simp at hu; rcases hu with rfl | rfl | rfl | rfl <;> rfl) (by unfold maxLen; omega) (by omega) (by have := H.out.gB; have := K.blk_lt H.out.blk; simp; omega) ?_
    intro v3' w2 ho hu2
    replace ho := (wayCells_snoc s.way ⟨o, t, x, true⟩) ▸ ho
    have hu3 : Upd (Value.slice a3 p k3).ownBlock.toList w' w2 := (((Upd.refl _ w').drew).alloc _).trans hu2 (fun t ht => .inl ht)
    have HO2 := hid ho
    have HU2 := hid hu3
    have hb2 := hu3.blk H.out.blk (not_mem_own (fun x hx => own_cells_ne OW.out H.out.blk (by decide) x hx))
    have fz := blk_frozen hb2 3
    have cz := (blk_cell hb2 3).trans rfl
    obtain ⟨a4, k4, e4, -, -, -⟩ := own_view ho
    subst e4
    clear ho hu2 hu3 hb2
    have HS2 := KEEP.out _ HU2.out
    refine hK.out _ _ HS2 ?_
    clear hK KK
    try simp only [Act.put, List.setIfInBounds_toArray, List.set_cons_zero, List.set_cons_succ]
    clear HS
    refine J.J_take (i := 26) (v := ?_) LAST (by rfl) (by decide) (by kernel_rfl) (by kernel_rfl) (by intro _ _ _ h; exact h) HS2 (Or.inl ⟨by rfl, ?_⟩) ?_
    rotate_left
    · intro w hSw; (try dsimp only at hSw); go_simp; try with_reducible rfl
    try simp only [Act.put, List.setIfInBounds_toArray, List.set_cons_zero, List.set_cons_succ]
    refine J.J_take (i := 27) (v := ?_) LAST (by rfl) (by decide) (by kernel_rfl) (by kernel_rfl) (by intro _ _ _ h; exact h) HS2 (Or.inl ⟨by rfl, ?_⟩) ?_
    rotate_left
    · intro w hSw; (try dsimp only at hSw); go_simp; try with_reducible rfl
    try simp only [Act.put, List.setIfInBounds_toArray, List.set_cons_zero, List.set_cons_succ]
    refine J.J_last (by rfl) (by kernel_rfl) (by kernel_rfl) ?_
    go_simp
    go_wp2_with fail
    go_meet
    exact ⟨_, w2, rfl, HO2.out, HU2.out⟩
  obtain ⟨v3', w2, ewc, ho2, hu2⟩ := hcut
  subst ewc
  obtain ⟨a4, k4, e4, -, -, -⟩ := own_view ho2
  subst e4
  have HO2 := hid ho2
  have HU2 := hid hu2
  clear ho2 hu2
  obtain ⟨W3, hW3⟩ : ∃ W3, W3 = w2.setCell ⟨g, 3, none⟩ (.slice a4 (p + 1) k4) := ⟨_, rfl⟩
  have IW2 := H.out.way_upd (w' := w2) (v3' := .slice a4 (p + 1) k4) (l := s.way ++ [⟨o, t, x, true⟩]) (by rw [List.length_append, ← HP.out]; exact HO2.out) (by rw [HV3.out, ← HP.out]; exact HU2.out)
  rw [← hW3] at IW2 ⊢
  have x2 := IW2.c0.2.2.1
  obtain ⟨g2', k2', e2, d2', -, -⟩ := IW2.ptr NN.out
  obtain ⟨hBb, m', hm', hnd', hf'⟩ := IW2.maps n NN.out
  rw [← HBB.out] at d2' hm'
  rw [e2] at x2
  have HV2 := hid e2
  have HM2 := hid hm'
  have HF2 := hid hf'
  have HN2 := hid hnd'
  have HW3 := hid hW3
  have IW := hid IW2
  clear e2 IW2 hm' hf' hnd' hW3 hBb
  obtain ⟨w4, hrun, hm4, hu4⟩ := run_del (P := Try.prog) HM2.out Try.underlying88 Try.underlying3 0 (t : Int)
  have HM4 := hid hm4
  have HU4 := hid hu4
  clear hm4 hu4
  go_wp2_with fail
  go_ret
  have hu4 : Upd [bs.getD n 0] W3 w4 := by rw [← HBB.out]; exact HU4.out
  have IW4 := IW.out.map_upd NN.out (HasMap.of_del (t := t) HN2.out HF2.out (by rw [← HBB.out]; exact HM4.out)) hu4
  refine ⟨rfl, ⟨.slice a4 (p + 1) k4, ?_⟩, ?_⟩
  · have e : dropped s n t = { ({ s with way := s.way ++ [⟨o, t, x, true⟩] } : Wd) with has := fun k => if k = n then at1 (s.has n) t 0 else s.has k } := by unfold dropped; rw [HO.out, HX.out]
    rw [e]; exact IW4
  · have o1 : Old B w' W3 := by rw [HW3.out]; exact H.out.way_old (by rw [HV3.out, ← HP.out]; exact HU2.out) _
    have o3 : Old B W3 w4 := Old.map (IW.out.maps n NN.out).2 (IW.out.maps n NN.out).1 hu4
    exact o1.trans o3
end Go.Proofs.Ytmdhhembkmkfdaa.Wt
