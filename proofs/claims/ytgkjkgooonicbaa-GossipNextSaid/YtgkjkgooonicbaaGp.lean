/- Gossip: put at a node that is known. -/
import Derived.Test.YtgkjkgooonicbaaGk
namespace Go.Proofs.Ytgkjkgooonicbaa.Gs
open Go Go.RowKit Go.Proofs.Ytgkjkgooonicbaa Go.Proofs.Ytgkjkgooonicbaa.K Go.Proofs.Ytgkjkgooonicbaa.M Go.Proofs.Ytgkjkgooonicbaa.O

theorem rowCells_put : ∀ (l : List Row) (p : Nat) (r : Row), p < l.length → (((rowCells l).set (p * 3) (.int .i64 (r.node : Int))).set (p * 3 + 1) (.int .i64 (r.turn : Int))).set (p * 3 + 2) (.int .i64 (r.says : Int)) = rowCells (l.set p r)
  | [], p, _, h => by simp at h
  | x :: l, 0, _, _ => by simp [rowCells, rowVals]
  | x :: l, p + 1, r, h => by
    have ih := rowCells_put l p r (by simpa using h)
    have hl : (rowVals x).length = 3 := rfl
    simp only [rowCells, List.flatMap_cons, List.set_cons_succ] at ih ⊢
    rw [show (p + 1) * 3 = (rowVals x).length + p * 3 by rw [hl]; omega, List.set_append_right _ _ (by omega), Nat.add_sub_cancel_left]
    rw [show (rowVals x).length + p * 3 + 1 = (rowVals x).length + (p * 3 + 1) by omega, List.set_append_right _ _ (by omega), Nat.add_sub_cancel_left]
    rw [show (rowVals x).length + p * 3 + 2 = (rowVals x).length + (p * 3 + 2) by omega, List.set_append_right _ _ (by omega), Nat.add_sub_cancel_left, ih]
/-- A row stored in memory. -/
def set3 (w : World) (r o : Nat) (n t s : Int) : World := ((w.setCell ⟨r, o, none⟩ (.int .i64 n)).setCell ⟨r, o + 1, none⟩ (.int .i64 t)).setCell ⟨r, o + 2, none⟩ (.int .i64 s)
theorem set3_upd (w : World) (r o : Nat) (n t s : Int) : Upd [r] w (set3 w r o n t s) :=
  (((Upd.refl [r] w).setCell (.inl (by simp)) _).setCell (.inl (by simp)) _).setCell (.inl (by simp)) _
section
variable {w : World} {g b : Nat} {s : G}
theorem IsG0.put_set {r n k : Nat} (h : IsG0 w g s (.slice (some ⟨r, 0, none⟩) n k) b) (hn : n = s.rows.length) {p : Nat} (hp : p < s.rows.length) (x : Row) :
    IsG0 (set3 w r (p * 3) x.node x.turn x.says) g { s with rows := s.rows.set p x } (.slice (some ⟨r, 0, none⟩) n k) b := by
  have us := set3_upd w r (p * 3) x.node x.turn x.says
  have hg : g ≠ r := fun q => h.vg (by rw [q]; rfl)
  have hb : b ≠ r := fun q => h.vb (by rw [q]; rfl)
  subst hn
  refine ⟨us.blk h.blk (by simpa using hg), ?_, h.map.upd us (by simpa using hb)⟩
  have h1 := row_set h.rows (i := p * 3) (by rw [rowCells_len]; omega) (.int .i64 (x.node : Int))
  have h2 := row_set h1 (i := p * 3 + 1) (by simp [rowCells_len]; omega) (.int .i64 (x.turn : Int))
  have h3 := row_set h2 (i := p * 3 + 2) (by simp [rowCells_len]; omega) (.int .i64 (x.says : Int))
  rw [rowCells_put _ _ _ hp] at h3
  show World.ownsRow _ 0 65 3 _ (s.rows.set p x).length _
  rw [List.length_set]
  exact h3
end

set_option maxHeartbeats 8000000 in
set_option maxRecDepth 100000 in
theorem put_old {w : World} {F : List Nat} {g : Nat} {s : G} (h : IsG w F g s) (hs : Sorted s.rows) (h8 : s.rows.length ≤ 100) (r : Row) (hr : hasRow s.rows r.node = true) (htn : r.turn ≤ 1099511627776) :
    Calls Try.prog 47 #[.pointer (some ⟨g, 0, none⟩), rowVal r] w fun e w' => e = .returned (.tuple #[]) ∧ IsG w' F g (gput s r) ∧ Upd F w w' := by
  obtain ⟨v, b, hg, hF⟩ := h
  have FD := hid (fun w' (u : Upd [] w w') => find_any (hg.new u) hs h8 r.node)
  have hp : posOf s.rows r.node < s.rows.length := by
    unfold hasRow at hr
    exact (of_decide_eq_true hr).1
  have hq : (s.rows.getD (posOf s.rows r.node) noRow).node = r.node := by
    unfold hasRow at hr
    exact (of_decide_eq_true hr).2
  have EG : gput s r = if newer (s.rows.getD (posOf s.rows r.node) noRow) r = true then
      (if r.node = s.me then { s with rows := s.rows.set (posOf s.rows r.node) (if r.says = 1 then r else ⟨s.me, min (r.turn + 1) 1099511627776, 1⟩) }
      else { s with rows := s.rows.set (posOf s.rows r.node) r, since := at1 s.since r.node 0 })
    else s := by unfold gput; rw [if_pos hr]
  obtain ⟨p, hpp⟩ : ∃ p, p = posOf s.rows r.node := ⟨_, rfl⟩
  rw [hr, ← hpp] at FD
  rw [← hpp] at EG hp hq
  obtain ⟨s', hs'⟩ : ∃ s', s' = gput s r := ⟨_, rfl⟩
  rw [← hs']
  rw [← hs'] at EG
  clear hs'
  obtain ⟨nd, tn, sa⟩ := r
  obtain ⟨R, hR⟩ : ∃ R, R = w.heap.size := ⟨_, rfl⟩
  obtain ⟨r0, k, ev, -, -, -, -, l1, l2⟩ := hg.row hp
  obtain ⟨x, hx⟩ : ∃ x, x = s.rows.getD p noRow := ⟨_, rfl⟩
  have R0 := hid (fun w' (u : Upd [] w w') => (hg.new u).row hp)
  rw [← hx] at R0 hq EG
  obtain ⟨n, hn⟩ : ∃ n, n = s.rows.length := ⟨_, rfl⟩
  subst ev
  obtain ⟨xn, xt, xs⟩ := x
  have hq : xn = nd := hq
  subst hq
  have HEG := hid EG
  clear EG
  have HG := hid hg
  have HF := hid hF
  have HP := hid hp
  have HR := hid hR
  have HN := hid hn
  have HTN := hid htn
  rw [← hn] at hp l1 R0 h8
  rw [← hn] at HG
  have hp' : (p : Int) < (n : Int) := by omega
  clear hg hF hs hr hpp hR hx htn hn
  show Calls _ _ #[_, .agg #[.int .i64 (xn : Int), .int .i64 (tn : Int), .int .i64 (sa : Int)]] _ _
  go_enter Try.func47, Try.ntmps47
  go_wp2_with fail
  refine (FD.out _ ((Upd.refl [] w).alloc _)).mono ?_
  rintro e w1 ⟨rfl, hu⟩
  have HB1 := hid (hu.blk (K.blk_new w _) (by simp))
  have HU1 := hid ((((Upd.refl [] w).alloc _).trans hu (fun t ht => .inl ht)))
  rw [← HR.out] at HB1
  have HG1 := hid (HG.out.new HU1.out)
  clear hu
  obtain ⟨r1, k1, e1, c0, c1, c2, -⟩ := R0.out _ HU1.out
  simp only [Value.slice.injEq, Option.some.injEq, Addr.mk.injEq, and_true, true_and] at e1
  obtain ⟨e1, e2⟩ := e1
  subst e1 e2
  have cg := HG1.out.cells.2.2.1
  have cgm := HG1.out.cells.1
  have cr0 := (K.blk_cell HB1.out 0).trans rfl
  have cr1 := (K.blk_cell HB1.out 1).trans rfl
  have cr2 := (K.blk_cell HB1.out 2).trans rfl
  trace_state
  go_upto_region 6 with (fail)
  obtain ⟨w2, hw2⟩ : ∃ w2, w2 = w1.alloc (.cells #[.int .i64 (xn : Int), .int .i64 (xt : Int), .int .i64 (xs : Int)] 65) := ⟨_, rfl⟩
  obtain ⟨X, hX⟩ : ∃ X, X = w1.heap.size := ⟨_, rfl⟩
  have HX2 := hid (show w2.heap[X]? = some (.cells #[.int .i64 (xn : Int), .int .i64 (xt : Int), .int .i64 (xs : Int)] 65 (0, 0)) by rw [hw2, hX]; exact K.blk_new w1 _)
  have HU2 := hid (show Upd [] w w2 by rw [hw2]; exact HU1.out.trans ((Upd.refl [] w1).alloc _) (fun t ht => .inl ht))
  have HB2 := hid (show w2.heap[R]? = some (.cells #[.int .i64 (xn : Int), .int .i64 (tn : Int), .int .i64 (sa : Int)] 65 (0, 0)) by rw [hw2]; exact K.blk_alloc HB1.out _)
  rw [← hw2, ← hX, ← HR.out]
  clear hw2 hX c0 c1 c2 cg cgm cr0 cr1 cr2
  have KEEP := hid (show ∀ wz, Upd [] w2 wz → wz.cell? ⟨R, 0, none⟩ = some (.int .i64 (xn : Int)) ∧ wz.cell? ⟨R, 1, none⟩ = some (.int .i64 (tn : Int)) ∧ wz.cell? ⟨R, 2, none⟩ = some (.int .i64 (sa : Int)) ∧ wz.cell? ⟨X, 0, none⟩ = some (.int .i64 (xn : Int)) ∧ wz.cell? ⟨X, 1, none⟩ = some (.int .i64 (xt : Int)) ∧ wz.cell? ⟨X, 2, none⟩ = some (.int .i64 (xs : Int)) from fun wz u => by
    have hb := u.blk HB2.out (by simp)
    have hx := u.blk HX2.out (by simp)
    exact ⟨K.blk_cell hb 0, K.blk_cell hb 1, K.blk_cell hb 2, K.blk_cell hx 0, K.blk_cell hx 1, K.blk_cell hx 2⟩)
  refine J.J_begin (fun wz => wz.cell? ⟨R, 0, none⟩ = some (.int .i64 (xn : Int)) ∧ wz.cell? ⟨R, 1, none⟩ = some (.int .i64 (tn : Int)) ∧ wz.cell? ⟨R, 2, none⟩ = some (.int .i64 (sa : Int)) ∧ wz.cell? ⟨X, 0, none⟩ = some (.int .i64 (xn : Int)) ∧ wz.cell? ⟨X, 1, none⟩ = some (.int .i64 (xt : Int)) ∧ wz.cell? ⟨X, 2, none⟩ = some (.int .i64 (xs : Int))) 12 (by kernel_rfl) ⟨by kernel_rfl, by kernel_rfl, by kernel_rfl⟩ (KEEP.out _ ((Upd.refl [] w2).drew)) (fun LAST HS => ?_)
  refine J.J_take (i := 0) (v := ?_) LAST (by rfl) (by decide) (by kernel_rfl) (by kernel_rfl) (by intro _ _ _ h; exact h) HS (Or.inl ⟨by rfl, ?_⟩) ?_
  rotate_left
  · intro w hSw; (try dsimp only at hSw); go_simp; try with_reducible rfl
  try simp only [Act.put, List.setIfInBounds_toArray, List.set_cons_zero, List.set_cons_succ]
  refine J.J_take (i := 1) (v := ?_) LAST (by rfl) (by decide) (by kernel_rfl) (by kernel_rfl) (by intro _ _ _ h; exact h) HS (Or.inl ⟨by rfl, ?_⟩) ?_
  rotate_left
  · intro w hSw; (try dsimp only at hSw); go_simp; try with_reducible rfl
  try simp only [Act.put, List.setIfInBounds_toArray, List.set_cons_zero, List.set_cons_succ]
  refine J.J_take (i := 2) (v := ?_) LAST (by rfl) (by decide) (by kernel_rfl) (by kernel_rfl) (by intro _ _ _ h; exact h) HS (Or.inl ⟨by rfl, ?_⟩) ?_
  rotate_left
  · intro w hSw; (try dsimp only at hSw); go_simp; try with_reducible rfl
  try simp only [Act.put, List.setIfInBounds_toArray, List.set_cons_zero, List.set_cons_succ]
  refine J.J_take (i := 3) (v := ?_) LAST (by rfl) (by decide) (by kernel_rfl) (by kernel_rfl) (by intro _ _ _ h; exact h) HS (Or.inl ⟨by rfl, ?_⟩) ?_
  rotate_left
  · intro w hSw; (try dsimp only at hSw); go_simp; try with_reducible rfl
  try simp only [Act.put, List.setIfInBounds_toArray, List.set_cons_zero, List.set_cons_succ]
  refine J.J_take (i := 5) (v := ?_) LAST (by rfl) (by decide) (by kernel_rfl) (by kernel_rfl) (by intro _ _ _ h; exact h) HS (Or.inl ⟨by rfl, ?_⟩) ?_
  rotate_left
  · intro w hSw; (try dsimp only at hSw); go_simp; try with_reducible rfl
  try simp only [Act.put, List.setIfInBounds_toArray, List.set_cons_zero, List.set_cons_succ]
  refine J.J_take (i := 6) (v := ?_) LAST (by rfl) (by decide) (by kernel_rfl) (by kernel_rfl) (by intro _ _ _ h; exact h) HS (Or.inl ⟨by rfl, ?_⟩) ?_
  rotate_left
  · intro w hSw; (try dsimp only at hSw); go_simp; try with_reducible rfl
  try simp only [Act.put, List.setIfInBounds_toArray, List.set_cons_zero, List.set_cons_succ]
  refine J.J_take (i := 7) (v := ?_) LAST (by rfl) (by decide) (by kernel_rfl) (by kernel_rfl) (by intro _ _ _ h; exact h) HS (Or.inl ⟨by rfl, ?_⟩) ?_
  rotate_left
  · intro w hSw; (try dsimp only at hSw); go_simp; try with_reducible rfl
  try simp only [Act.put, List.setIfInBounds_toArray, List.set_cons_zero, List.set_cons_succ]
  refine J.J_take (i := 8) (v := ?_) LAST (by rfl) (by decide) (by kernel_rfl) (by kernel_rfl) (by intro _ _ _ h; exact h) HS (Or.inl ⟨by rfl, ?_⟩) ?_
  rotate_left
  · intro w hSw; (try dsimp only at hSw); go_simp; try with_reducible rfl
  try simp only [Act.put, List.setIfInBounds_toArray, List.set_cons_zero, List.set_cons_succ]
  refine J.J_one (i := 4) (by rfl) (by decide) (by kernel_rfl) (fun KK hK => ?_)
  go_simp
  refine (compare_any tn xt _).mono ?_
  rintro e w' ⟨rfl, rfl⟩
  refine hK.out _ _ HS ?_
  clear hK KK
  try simp only [List.setIfInBounds_toArray]
  refine J.J_one (i := 9) (by rfl) (by decide) (by kernel_rfl) (fun KK hK => ?_)
  go_simp
  refine (compare_any sa xs _).mono ?_
  rintro e w' ⟨rfl, rfl⟩
  refine hK.out _ _ HS ?_
  clear hK KK
  try simp only [List.setIfInBounds_toArray]
  refine J.J_one (i := 10) (by rfl) (by decide) (by kernel_rfl) (fun KK hK => ?_)
  go_simp
  have HS3 := KEEP.out _ (((Upd.refl [] w2).alloc (.cells #[.int .i64 (cmpN tn xt), .int .i64 (cmpN sa xs)] 3)).drew)
  refine hK.out _ _ HS3 ?_
  clear hK KK
  try simp only [List.setIfInBounds_toArray]
  refine J.J_one (i := 11) (by rfl) (by decide) (by kernel_rfl) (fun KK hK => ?_)
  go_simp
  refine (or_any (cmpN tn xt) (cmpN sa xs) w2.heap.size ((w2.alloc (.cells #[.int .i64 (cmpN tn xt), .int .i64 (cmpN sa xs)] 3)).drew) (K.blk_new w2 _)).mono ?_
  rintro e w3 ⟨rfl, hu⟩
  have HU3 := hid (((((Upd.refl [] w2).alloc (.cells #[.int .i64 (cmpN tn xt), .int .i64 (cmpN sa xs)] 3)).drew).trans hu (fun t ht => .inl ht)))
  clear hu
  go_simp
  refine hK.out _ _ (KEEP.out _ HU3.out) ?_
  clear hK KK HS HS3
  try simp only [List.setIfInBounds_toArray]
  refine J.J_last (by rfl) (by kernel_rfl) (by kernel_rfl) ?_
  go_simp
  have HGZ := hid (HG1.out.new ((Upd.refl [] w1)))
  have HUW := hid (HU2.out.trans HU3.out (fun t ht => .inl ht))
  have HG3 := hid (HG.out.new HUW.out)
  have HB3 := hid (HU3.out.blk HB2.out (by simp))
  clear LAST KEEP HGZ HX2 HU2 HB2 HU1 HB1 HG1 HU3 R0 FD
  obtain ⟨V, hV⟩ : ∃ V, V = orN (cmpN tn xt) (cmpN sa xs) := ⟨_, rfl⟩
  have EV := newer_or ⟨xn, xt, xs⟩ ⟨xn, tn, sa⟩
  simp only [] at EV
  rw [← hV] at EV ⊢
  by_cases hN : newer ⟨xn, xt, xs⟩ ⟨xn, tn, sa⟩ = true
  · have N2 := hid hN
    have hV0 : ¬ V ≤ 0 := by
      intro q
      rw [EV.1 q] at hN
      cases hN
    clear EV hV hN
    obtain ⟨me, hme⟩ : ∃ me, me = s.me := ⟨_, rfl⟩
    go_upto_region 7 with (fail)
    have KEEP := hid (show ∀ wz, Upd [] w3 wz → wz.cell? ⟨R, 0, none⟩ = some (.int .i64 (xn : Int)) ∧ wz.cell? ⟨g, 0, none⟩ = some (.int .i64 (s.me : Int)) from fun wz u => by
      have hb := u.blk HB3.out (by simp)
      exact ⟨K.blk_cell hb 0, (HG3.out.new u).cells.1⟩)
    rw [← hme] at KEEP
    have HME := hid hme
    clear hme
    refine J.J_begin (fun wz => wz.cell? ⟨R, 0, none⟩ = some (.int .i64 (xn : Int)) ∧ wz.cell? ⟨g, 0, none⟩ = some (.int .i64 (me : Int))) 6 (by kernel_rfl) ⟨by kernel_rfl, by kernel_rfl, by kernel_rfl⟩ (KEEP.out _ ((Upd.refl [] w3).drew)) (fun LAST HS => ?_)
    refine J.J_take (i := 0) (v := ?_) LAST (by rfl) (by decide) (by kernel_rfl) (by kernel_rfl) (by intro _ _ _ h; exact h) HS (Or.inl ⟨by rfl, ?_⟩) ?_
    rotate_left
    · intro w hSw; (try dsimp only at hSw); go_simp; try with_reducible rfl
    try simp only [Act.put, List.setIfInBounds_toArray, List.set_cons_zero, List.set_cons_succ]
    refine J.J_take (i := 1) (v := ?_) LAST (by rfl) (by decide) (by kernel_rfl) (by kernel_rfl) (by intro _ _ _ h; exact h) HS (Or.inl ⟨by rfl, ?_⟩) ?_
    rotate_left
    · intro w hSw; (try dsimp only at hSw); go_simp; try with_reducible rfl
    try simp only [Act.put, List.setIfInBounds_toArray, List.set_cons_zero, List.set_cons_succ]
    refine J.J_take (i := 2) (v := ?_) LAST (by rfl) (by decide) (by kernel_rfl) (by kernel_rfl) (by intro _ _ _ h; exact h) HS (Or.inl ⟨by rfl, ?_⟩) ?_
    rotate_left
    · intro w hSw; (try dsimp only at hSw); go_simp; try with_reducible rfl
    try simp only [Act.put, List.setIfInBounds_toArray, List.set_cons_zero, List.set_cons_succ]
    refine J.J_take (i := 3) (v := ?_) LAST (by rfl) (by decide) (by kernel_rfl) (by kernel_rfl) (by intro _ _ _ h; exact h) HS (Or.inl ⟨by rfl, ?_⟩) ?_
    rotate_left
    · intro w hSw; (try dsimp only at hSw); go_simp; try with_reducible rfl
    try simp only [Act.put, List.setIfInBounds_toArray, List.set_cons_zero, List.set_cons_succ]
    refine J.J_take (i := 4) (v := ?_) LAST (by rfl) (by decide) (by kernel_rfl) (by kernel_rfl) (by intro _ _ _ h; exact h) HS (Or.inl ⟨by rfl, ?_⟩) ?_
    rotate_left
    · intro w hSw; (try dsimp only at hSw); go_simp; try with_reducible rfl
    try simp only [Act.put, List.setIfInBounds_toArray, List.set_cons_zero, List.set_cons_succ]
    refine J.J_take (i := 5) (v := ?_) LAST (by rfl) (by decide) (by kernel_rfl) (by kernel_rfl) (by intro _ _ _ h; exact h) HS (Or.inl ⟨by rfl, ?_⟩) ?_
    rotate_left
    · intro w hSw; (try dsimp only at hSw); go_simp; try with_reducible rfl
    try simp only [Act.put, List.setIfInBounds_toArray, List.set_cons_zero, List.set_cons_succ]
    refine J.J_last (by rfl) (by kernel_rfl) (by kernel_rfl) ?_
    clear LAST HS
    by_cases hM : xn = me
    · skip
      have hM' : ((xn : Int) == (me : Int)) = true := by rw [beq_iff_eq]; omega
      have HMM := hid hM
      clear hM
      have cs : w3.cell? ⟨R, 2, none⟩ = some (.int .i64 (sa : Int)) := K.blk_cell HB3.out 2
      go_simp
      by_cases hS : sa = 1
      · have HS1 := hid hS
        have hS' : ((sa : Int) == 1) = true := by rw [beq_iff_eq]; omega
        go_upto_region 10 with (fail)
        obtain ⟨w4, hw4⟩ : ∃ w4, w4 = w3.drew := ⟨_, rfl⟩
        have HU4 := hid (show Upd [] w w4 by rw [hw4]; exact HUW.out.drew)
        have HG4 := hid (HG.out.new HU4.out)
        have HB4 := hid (show w4.heap[R]? = some (.cells #[.int .i64 (xn : Int), .int .i64 (tn : Int), .int .i64 (sa : Int)] 65 (0, 0)) by rw [hw4]; exact HB3.out)
        rw [← hw4]
        clear hw4
        have KEEP4 := hid (show ∀ wz, Upd [] w4 wz → wz.cell? ⟨g, 2, none⟩ = some (.slice (some ⟨r0, 0, none⟩) n k) ∧ wz.cell? ⟨R, 0, none⟩ = some (.int .i64 (xn : Int)) ∧ wz.cell? ⟨R, 1, none⟩ = some (.int .i64 (tn : Int)) ∧ wz.cell? ⟨R, 2, none⟩ = some (.int .i64 (sa : Int)) from fun wz u => by
          have hb := u.blk HB4.out (by simp)
          exact ⟨(HG4.out.new u).cells.2.2.1, K.blk_cell hb 0, K.blk_cell hb 1, K.blk_cell hb 2⟩)
        refine J.J_begin (fun wz => wz.cell? ⟨g, 2, none⟩ = some (.slice (some ⟨r0, 0, none⟩) n k) ∧ wz.cell? ⟨R, 0, none⟩ = some (.int .i64 (xn : Int)) ∧ wz.cell? ⟨R, 1, none⟩ = some (.int .i64 (tn : Int)) ∧ wz.cell? ⟨R, 2, none⟩ = some (.int .i64 (sa : Int))) 7 (by kernel_rfl) ⟨by kernel_rfl, by kernel_rfl, by kernel_rfl⟩ (KEEP4.out _ ((Upd.refl [] w4).drew)) (fun LAST HS => ?_)
        refine J.J_take (i := 0) (v := ?_) LAST (by rfl) (by decide) (by kernel_rfl) (by kernel_rfl) (by intro _ _ _ h; exact h) HS (Or.inl ⟨by rfl, ?_⟩) ?_
        rotate_left
        · intro w hSw; (try dsimp only at hSw); go_simp; try with_reducible rfl
        try simp only [Act.put, List.setIfInBounds_toArray, List.set_cons_zero, List.set_cons_succ]
        refine J.J_take (i := 1) (v := ?_) LAST (by rfl) (by decide) (by kernel_rfl) (by kernel_rfl) (by intro _ _ _ h; exact h) HS (Or.inl ⟨by rfl, ?_⟩) ?_
        rotate_left
        · intro w hSw; (try dsimp only at hSw); go_simp; try with_reducible rfl
        try simp only [Act.put, List.setIfInBounds_toArray, List.set_cons_zero, List.set_cons_succ]
        refine J.J_take (i := 2) (v := ?_) LAST (by rfl) (by decide) (by kernel_rfl) (by kernel_rfl) (by intro _ _ _ h; exact h) HS (Or.inl ⟨by rfl, ?_⟩) ?_
        rotate_left
        · intro w hSw; (try dsimp only at hSw); go_simp; try with_reducible rfl
        try simp only [Act.put, List.setIfInBounds_toArray, List.set_cons_zero, List.set_cons_succ]
        refine J.J_take (i := 3) (v := ?_) LAST (by rfl) (by decide) (by kernel_rfl) (by kernel_rfl) (by intro _ _ _ h; exact h) HS (Or.inl ⟨by rfl, ?_⟩) ?_
        rotate_left
        · intro w hSw; (try dsimp only at hSw); go_simp; try with_reducible rfl
        try simp only [Act.put, List.setIfInBounds_toArray, List.set_cons_zero, List.set_cons_succ]
        refine J.J_take (i := 4) (v := ?_) LAST (by rfl) (by decide) (by kernel_rfl) (by kernel_rfl) (by intro _ _ _ h; exact h) HS (Or.inl ⟨by rfl, ?_⟩) ?_
        rotate_left
        · intro w hSw; (try dsimp only at hSw); go_simp; try with_reducible rfl
        try simp only [Act.put, List.setIfInBounds_toArray, List.set_cons_zero, List.set_cons_succ]
        refine J.J_take (i := 5) (v := ?_) LAST (by rfl) (by decide) (by kernel_rfl) (by kernel_rfl) (by intro _ _ _ h; exact h) HS (Or.inl ⟨by rfl, ?_⟩) ?_
        rotate_left
        · intro w hSw; (try dsimp only at hSw); go_simp; try with_reducible rfl
        try simp only [Act.put, List.setIfInBounds_toArray, List.set_cons_zero, List.set_cons_succ]
        refine J.J_take (i := 6) (v := ?_) LAST (by rfl) (by decide) (by kernel_rfl) (by kernel_rfl) (by intro _ _ _ h; exact h) HS (Or.inl ⟨by rfl, ?_⟩) ?_
        rotate_left
        · intro w hSw; (try dsimp only at hSw); go_simp; try with_reducible rfl
        try simp only [Act.put, List.setIfInBounds_toArray, List.set_cons_zero, List.set_cons_succ]
        refine J.J_last (by rfl) (by kernel_rfl) (by kernel_rfl) ?_
        obtain ⟨r5, k5, e5, q0, q1, q2, qf, -, -⟩ := HG4.out.row HP.out
        simp only [Value.slice.injEq, Option.some.injEq, Addr.mk.injEq, and_true] at e5
        obtain ⟨e5, -, -⟩ := e5
        rw [← e5] at q0 q1 q2 qf
        have qf0 := qf (p * 3)
        have qf1 := qf (p * 3 + 1)
        have qf2 := qf (p * 3 + 2)
        clear qf e5 LAST HS
        go_simp
        have H5 := HG4.out.put_set HN.out HP.out ⟨xn, tn, sa⟩
        have U5 := set3_upd w4 r0 (p * 3) xn tn sa
        unfold set3 at H5 U5
        rw [show ((sa : Nat) : Int) = 1 by rw [HS1.out]; rfl] at H5 U5
        have H6 := hid H5
        have U6 := hid U5
        clear H5 U5 q0 q1 q2 qf0 qf1 qf2
        go_wp2_with fail
        refine bodyPost_ret (results_none rfl _ _ _) rfl ?_
        rw [HEG.out, if_pos N2.out, if_pos (HMM.out.trans HME.out), if_pos HS1.out]
        exact ⟨rfl, ⟨_, b, H6.out.new ((Upd.refl [] _).drew), HF.out.trans (by rw [HN.out])⟩, (((HU4.out.mono (T := F) (fun x hx => by cases hx)).trans U6.out (fun x hx => .inl (by simp at hx; subst hx; rw [HF.out]; exact mem_foot.2 (.inr (.inr rfl))))).drew)⟩
      · have HS1 := hid hS
        have hS' : ((sa : Int) == 1) = false := by rw [beq_eq_false_iff_ne]; omega
        go_upto_region 9 with (fail)
        obtain ⟨w3', hw3'⟩ : ∃ w3', w3' = w3.drew := ⟨_, rfl⟩
        have HUX := hid (show Upd [] w w3' by rw [hw3']; exact HUW.out.drew)
        have HGX := hid (HG.out.new HUX.out)
        have HBX := hid (show w3'.heap[R]? = some (.cells #[.int .i64 (xn : Int), .int .i64 (tn : Int), .int .i64 (sa : Int)] 65 (0, 0)) by rw [hw3']; exact HB3.out)
        rw [← hw3']
        clear hw3'
        have KEEPX := hid (show ∀ wz, Upd [] w3' wz → wz.cell? ⟨R, 1, none⟩ = some (.int .i64 (tn : Int)) ∧ wz.cell? ⟨g, 0, none⟩ = some (.int .i64 (me : Int)) from fun wz u => by
          have hb := u.blk HBX.out (by simp)
          exact ⟨K.blk_cell hb 1, by rw [HME.out]; exact (HGX.out.new u).cells.1⟩)
        obtain ⟨tm, htm⟩ : ∃ tm, tm = min (tn + 1) 1099511627776 := ⟨_, rfl⟩
        have hmin : min ((tn : Int) + 1) 1099511627776 = (tm : Int) := by rw [htm]; omega
        have hw1 : IntKind.i64.wrap ((tn : Int) + 1) = (tn : Int) + 1 := by
          have := HTN.out
          exact IntWalk.i64_in _ (by omega)
        have HTM := hid htm
        clear htm
        refine J.J_begin (fun wz => wz.cell? ⟨R, 1, none⟩ = some (.int .i64 (tn : Int)) ∧ wz.cell? ⟨g, 0, none⟩ = some (.int .i64 (me : Int))) 9 (by kernel_rfl) ⟨by kernel_rfl, by kernel_rfl, by kernel_rfl⟩ (KEEPX.out _ ((Upd.refl [] w3').drew)) (fun LAST HS => ?_)
        refine J.J_take (i := 0) (v := ?_) LAST (by rfl) (by decide) (by kernel_rfl) (by kernel_rfl) (by intro _ _ _ h; exact h) HS (Or.inl ⟨by rfl, ?_⟩) ?_
        rotate_left
        · intro w hSw; (try dsimp only at hSw); go_simp; try with_reducible rfl
        try simp only [Act.put, List.setIfInBounds_toArray, List.set_cons_zero, List.set_cons_succ]
        refine J.J_take (i := 1) (v := ?_) LAST (by rfl) (by decide) (by kernel_rfl) (by kernel_rfl) (by intro _ _ _ h; exact h) HS (Or.inl ⟨by rfl, ?_⟩) ?_
        rotate_left
        · intro w hSw; (try dsimp only at hSw); go_simp; try with_reducible rfl
        try simp only [Act.put, List.setIfInBounds_toArray, List.set_cons_zero, List.set_cons_succ]
        refine J.J_take (i := 2) (v := ?_) LAST (by rfl) (by decide) (by kernel_rfl) (by kernel_rfl) (by intro _ _ _ h; exact h) HS (Or.inl ⟨by rfl, ?_⟩) ?_
        rotate_left
        · intro w hSw; (try dsimp only at hSw); go_simp; try with_reducible rfl
        try simp only [Act.put, List.setIfInBounds_toArray, List.set_cons_zero, List.set_cons_succ]
        refine J.J_take (i := 3) (v := ?_) LAST (by rfl) (by decide) (by kernel_rfl) (by kernel_rfl) (by intro _ _ _ h; exact h) HS (Or.inl ⟨by rfl, ?_⟩) ?_
        rotate_left
        · intro w hSw; (try dsimp only at hSw); go_simp; try with_reducible rfl
        try simp only [Act.put, List.setIfInBounds_toArray, List.set_cons_zero, List.set_cons_succ]
        refine J.J_take (i := 4) (v := ?_) LAST (by rfl) (by decide) (by kernel_rfl) (by kernel_rfl) (by intro _ _ _ h; exact h) HS (Or.inl ⟨by rfl, ?_⟩) ?_
        rotate_left
        · intro w hSw; (try dsimp only at hSw); go_simp; try with_reducible rfl
        try simp only [Act.put, List.setIfInBounds_toArray, List.set_cons_zero, List.set_cons_succ]
        refine J.J_take (i := 5) (v := ?_) LAST (by rfl) (by decide) (by kernel_rfl) (by kernel_rfl) (by intro _ _ _ h; exact h) HS (Or.inl ⟨by rfl, ?_⟩) ?_
        rotate_left
        · intro w hSw; (try dsimp only at hSw); go_simp; try with_reducible rfl
        try simp only [Act.put, List.setIfInBounds_toArray, List.set_cons_zero, List.set_cons_succ]
        refine J.J_take (i := 6) (v := ?_) LAST (by rfl) (by decide) (by kernel_rfl) (by kernel_rfl) (by intro _ _ _ h; exact h) HS (Or.inl ⟨by rfl, ?_⟩) ?_
        rotate_left
        · intro w hSw; (try dsimp only at hSw); go_simp; try with_reducible rfl
        try simp only [Act.put, List.setIfInBounds_toArray, List.set_cons_zero, List.set_cons_succ]
        refine J.J_take (i := 7) (v := ?_) LAST (by rfl) (by decide) (by kernel_rfl) (by kernel_rfl) (by intro _ _ _ h; exact h) HS (Or.inl ⟨by rfl, ?_⟩) ?_
        rotate_left
        · intro w hSw; (try dsimp only at hSw); go_simp; try with_reducible rfl
        try simp only [Act.put, List.setIfInBounds_toArray, List.set_cons_zero, List.set_cons_succ]
        refine J.J_take (i := 8) (v := ?_) LAST (by rfl) (by decide) (by kernel_rfl) (by kernel_rfl) (by intro _ _ _ h; exact h) HS (Or.inl ⟨by rfl, ?_⟩) ?_
        rotate_left
        · intro w hSw; (try dsimp only at hSw); go_simp; try with_reducible rfl
        try simp only [Act.put, List.setIfInBounds_toArray, List.set_cons_zero, List.set_cons_succ]
        refine J.J_last (by rfl) (by kernel_rfl) (by kernel_rfl) ?_
        have cR0 := (K.blk_cell HBX.out 0).trans rfl
        have cR1 := (K.blk_cell HBX.out 1).trans rfl
        have cR2 := (K.blk_cell HBX.out 2).trans rfl
        have fR0 := K.blk_frozen HBX.out 0
        have fR1 := K.blk_frozen HBX.out 1
        have fR2 := K.blk_frozen HBX.out 2
        clear LAST HS
        go_simp
        obtain ⟨w4, hw4⟩ : ∃ w4, w4 = (((w3'.setCell ⟨R, 0, none⟩ (.int .i64 (me : Int))).setCell ⟨R, 1, none⟩ (.int .i64 (tm : Int))).setCell ⟨R, 2, none⟩ (.int .i64 1)).drew := ⟨_, rfl⟩
        have UR := set3_upd w3' R 0 me tm 1
        unfold set3 at UR
        have Rs : w.heap.size ≤ R := by have := HR.out; omega
        have UX0 : Upd [] w w4 := by
          rw [hw4]
          exact ((((HUX.out.setCell (.inr Rs) _).setCell (.inr Rs) _).setCell (.inr Rs) _).drew)
        have HU4 := hid UX0
        have HG4 := hid (HG.out.new UX0)
        have HB4 := hid (show w4.heap[R]? = some (.cells #[.int .i64 (me : Int), .int .i64 (tm : Int), .int .i64 1] 65 (0, 0)) by
          rw [hw4]
          exact (K.blk_set (K.blk_set (K.blk_set HBX.out 0 _) 1 _) 2 _).trans rfl)
        clear UR UX0 Rs cR0 cR1 cR2 fR0 fR1 fR2
        go_upto_region 10 with (fail)
        rw [← hw4]
        clear hw4
        have KEEP4 := hid (show ∀ wz, Upd [] w4 wz → wz.cell? ⟨g, 2, none⟩ = some (.slice (some ⟨r0, 0, none⟩) n k) ∧ wz.cell? ⟨R, 0, none⟩ = some (.int .i64 (me : Int)) ∧ wz.cell? ⟨R, 1, none⟩ = some (.int .i64 (tm : Int)) ∧ wz.cell? ⟨R, 2, none⟩ = some (.int .i64 1) from fun wz u => by
          have hb := u.blk HB4.out (by simp)
          exact ⟨(HG4.out.new u).cells.2.2.1, K.blk_cell hb 0, K.blk_cell hb 1, K.blk_cell hb 2⟩)
        refine J.J_begin (fun wz => wz.cell? ⟨g, 2, none⟩ = some (.slice (some ⟨r0, 0, none⟩) n k) ∧ wz.cell? ⟨R, 0, none⟩ = some (.int .i64 (me : Int)) ∧ wz.cell? ⟨R, 1, none⟩ = some (.int .i64 (tm : Int)) ∧ wz.cell? ⟨R, 2, none⟩ = some (.int .i64 1)) 7 (by kernel_rfl) ⟨by kernel_rfl, by kernel_rfl, by kernel_rfl⟩ (KEEP4.out _ ((Upd.refl [] w4).drew)) (fun LAST HS => ?_)
        refine J.J_take (i := 0) (v := ?_) LAST (by rfl) (by decide) (by kernel_rfl) (by kernel_rfl) (by intro _ _ _ h; exact h) HS (Or.inl ⟨by rfl, ?_⟩) ?_
        rotate_left
        · intro w hSw; (try dsimp only at hSw); go_simp; try with_reducible rfl
        try simp only [Act.put, List.setIfInBounds_toArray, List.set_cons_zero, List.set_cons_succ]
        refine J.J_take (i := 1) (v := ?_) LAST (by rfl) (by decide) (by kernel_rfl) (by kernel_rfl) (by intro _ _ _ h; exact h) HS (Or.inl ⟨by rfl, ?_⟩) ?_
        rotate_left
        · intro w hSw; (try dsimp only at hSw); go_simp; try with_reducible rfl
        try simp only [Act.put, List.setIfInBounds_toArray, List.set_cons_zero, List.set_cons_succ]
        refine J.J_take (i := 2) (v := ?_) LAST (by rfl) (by decide) (by kernel_rfl) (by kernel_rfl) (by intro _ _ _ h; exact h) HS (Or.inl ⟨by rfl, ?_⟩) ?_
        rotate_left
        · intro w hSw; (try dsimp only at hSw); go_simp; try with_reducible rfl
        try simp only [Act.put, List.setIfInBounds_toArray, List.set_cons_zero, List.set_cons_succ]
        refine J.J_take (i := 3) (v := ?_) LAST (by rfl) (by decide) (by kernel_rfl) (by kernel_rfl) (by intro _ _ _ h; exact h) HS (Or.inl ⟨by rfl, ?_⟩) ?_
        rotate_left
        · intro w hSw; (try dsimp only at hSw); go_simp; try with_reducible rfl
        try simp only [Act.put, List.setIfInBounds_toArray, List.set_cons_zero, List.set_cons_succ]
        refine J.J_take (i := 4) (v := ?_) LAST (by rfl) (by decide) (by kernel_rfl) (by kernel_rfl) (by intro _ _ _ h; exact h) HS (Or.inl ⟨by rfl, ?_⟩) ?_
        rotate_left
        · intro w hSw; (try dsimp only at hSw); go_simp; try with_reducible rfl
        try simp only [Act.put, List.setIfInBounds_toArray, List.set_cons_zero, List.set_cons_succ]
        refine J.J_take (i := 5) (v := ?_) LAST (by rfl) (by decide) (by kernel_rfl) (by kernel_rfl) (by intro _ _ _ h; exact h) HS (Or.inl ⟨by rfl, ?_⟩) ?_
        rotate_left
        · intro w hSw; (try dsimp only at hSw); go_simp; try with_reducible rfl
        try simp only [Act.put, List.setIfInBounds_toArray, List.set_cons_zero, List.set_cons_succ]
        refine J.J_take (i := 6) (v := ?_) LAST (by rfl) (by decide) (by kernel_rfl) (by kernel_rfl) (by intro _ _ _ h; exact h) HS (Or.inl ⟨by rfl, ?_⟩) ?_
        rotate_left
        · intro w hSw; (try dsimp only at hSw); go_simp; try with_reducible rfl
        try simp only [Act.put, List.setIfInBounds_toArray, List.set_cons_zero, List.set_cons_succ]
        refine J.J_last (by rfl) (by kernel_rfl) (by kernel_rfl) ?_
        obtain ⟨r5, k5, e5, q0, q1, q2, qf, -, -⟩ := HG4.out.row HP.out
        simp only [Value.slice.injEq, Option.some.injEq, Addr.mk.injEq, and_true] at e5
        obtain ⟨e5, -, -⟩ := e5
        rw [← e5] at q0 q1 q2 qf
        have qf0 := qf (p * 3)
        have qf1 := qf (p * 3 + 1)
        have qf2 := qf (p * 3 + 2)
        clear qf e5 LAST HS
        go_simp
        have H5 := HG4.out.put_set HN.out HP.out ⟨me, tm, 1⟩
        have U5 := set3_upd w4 r0 (p * 3) me tm 1
        unfold set3 at H5 U5
        have e1 : ((1 : Nat) : Int) = 1 := rfl
        simp only [e1] at H5
        clear e1
        rw [show (⟨me, tm, 1⟩ : Row) = ⟨s.me, tm, 1⟩ by rw [← HME.out]] at H5
        have H6 := hid H5
        have U6 := hid U5
        clear H5 U5 q0 q1 q2 qf0 qf1 qf2
        go_wp2_with fail
        refine bodyPost_ret (results_none rfl _ _ _) rfl ?_
        rw [HEG.out, if_pos N2.out, if_pos (HMM.out.trans HME.out), if_neg HS1.out, ← HTM.out]
        exact ⟨rfl, ⟨_, b, H6.out.new ((Upd.refl [] _).drew), HF.out.trans (by rw [HN.out])⟩, (((HU4.out.mono (T := F) (fun x hx => by cases hx)).trans U6.out (fun x hx => .inl (by simp at hx; subst hx; rw [HF.out]; exact mem_foot.2 (.inr (.inr rfl))))).drew)⟩
    · have HMM := hid hM
      have hM' : ((xn : Int) == (me : Int)) = false := by rw [beq_eq_false_iff_ne]; omega
      go_upto_region 11 with (fail)
      obtain ⟨w4, hw4⟩ : ∃ w4, w4 = w3.drew := ⟨_, rfl⟩
      have HU4 := hid (show Upd [] w w4 by rw [hw4]; exact HUW.out.drew)
      have HG4 := hid (HG.out.new HU4.out)
      have HB4 := hid (show w4.heap[R]? = some (.cells #[.int .i64 (xn : Int), .int .i64 (tn : Int), .int .i64 (sa : Int)] 65 (0, 0)) by rw [hw4]; exact HB3.out)
      rw [← hw4]
      clear hw4
      have KEEP4 := hid (show ∀ wz, Upd [] w4 wz → wz.cell? ⟨g, 2, none⟩ = some (.slice (some ⟨r0, 0, none⟩) n k) ∧ wz.cell? ⟨R, 0, none⟩ = some (.int .i64 (xn : Int)) ∧ wz.cell? ⟨R, 1, none⟩ = some (.int .i64 (tn : Int)) ∧ wz.cell? ⟨R, 2, none⟩ = some (.int .i64 (sa : Int)) from fun wz u => by
        have hb := u.blk HB4.out (by simp)
        exact ⟨(HG4.out.new u).cells.2.2.1, K.blk_cell hb 0, K.blk_cell hb 1, K.blk_cell hb 2⟩)
      refine J.J_begin (fun wz => wz.cell? ⟨g, 2, none⟩ = some (.slice (some ⟨r0, 0, none⟩) n k) ∧ wz.cell? ⟨R, 0, none⟩ = some (.int .i64 (xn : Int)) ∧ wz.cell? ⟨R, 1, none⟩ = some (.int .i64 (tn : Int)) ∧ wz.cell? ⟨R, 2, none⟩ = some (.int .i64 (sa : Int))) 7 (by kernel_rfl) ⟨by kernel_rfl, by kernel_rfl, by kernel_rfl⟩ (KEEP4.out _ ((Upd.refl [] w4).drew)) (fun LAST HS => ?_)
      refine J.J_take (i := 0) (v := ?_) LAST (by rfl) (by decide) (by kernel_rfl) (by kernel_rfl) (by intro _ _ _ h; exact h) HS (Or.inl ⟨by rfl, ?_⟩) ?_
      rotate_left
      · intro w hSw; (try dsimp only at hSw); go_simp; try with_reducible rfl
      try simp only [Act.put, List.setIfInBounds_toArray, List.set_cons_zero, List.set_cons_succ]
      refine J.J_take (i := 1) (v := ?_) LAST (by rfl) (by decide) (by kernel_rfl) (by kernel_rfl) (by intro _ _ _ h; exact h) HS (Or.inl ⟨by rfl, ?_⟩) ?_
      rotate_left
      · intro w hSw; (try dsimp only at hSw); go_simp; try with_reducible rfl
      try simp only [Act.put, List.setIfInBounds_toArray, List.set_cons_zero, List.set_cons_succ]
      refine J.J_take (i := 2) (v := ?_) LAST (by rfl) (by decide) (by kernel_rfl) (by kernel_rfl) (by intro _ _ _ h; exact h) HS (Or.inl ⟨by rfl, ?_⟩) ?_
      rotate_left
      · intro w hSw; (try dsimp only at hSw); go_simp; try with_reducible rfl
      try simp only [Act.put, List.setIfInBounds_toArray, List.set_cons_zero, List.set_cons_succ]
      refine J.J_take (i := 3) (v := ?_) LAST (by rfl) (by decide) (by kernel_rfl) (by kernel_rfl) (by intro _ _ _ h; exact h) HS (Or.inl ⟨by rfl, ?_⟩) ?_
      rotate_left
      · intro w hSw; (try dsimp only at hSw); go_simp; try with_reducible rfl
      try simp only [Act.put, List.setIfInBounds_toArray, List.set_cons_zero, List.set_cons_succ]
      refine J.J_take (i := 4) (v := ?_) LAST (by rfl) (by decide) (by kernel_rfl) (by kernel_rfl) (by intro _ _ _ h; exact h) HS (Or.inl ⟨by rfl, ?_⟩) ?_
      rotate_left
      · intro w hSw; (try dsimp only at hSw); go_simp; try with_reducible rfl
      try simp only [Act.put, List.setIfInBounds_toArray, List.set_cons_zero, List.set_cons_succ]
      refine J.J_take (i := 5) (v := ?_) LAST (by rfl) (by decide) (by kernel_rfl) (by kernel_rfl) (by intro _ _ _ h; exact h) HS (Or.inl ⟨by rfl, ?_⟩) ?_
      rotate_left
      · intro w hSw; (try dsimp only at hSw); go_simp; try with_reducible rfl
      try simp only [Act.put, List.setIfInBounds_toArray, List.set_cons_zero, List.set_cons_succ]
      refine J.J_take (i := 6) (v := ?_) LAST (by rfl) (by decide) (by kernel_rfl) (by kernel_rfl) (by intro _ _ _ h; exact h) HS (Or.inl ⟨by rfl, ?_⟩) ?_
      rotate_left
      · intro w hSw; (try dsimp only at hSw); go_simp; try with_reducible rfl
      try simp only [Act.put, List.setIfInBounds_toArray, List.set_cons_zero, List.set_cons_succ]
      refine J.J_last (by rfl) (by kernel_rfl) (by kernel_rfl) ?_
      obtain ⟨r5, k5, e5, q0, q1, q2, qf, -, -⟩ := HG4.out.row HP.out
      simp only [Value.slice.injEq, Option.some.injEq, Addr.mk.injEq, and_true] at e5
      obtain ⟨e5, -, -⟩ := e5
      rw [← e5] at q0 q1 q2 qf
      have qf0 := qf (p * 3)
      have qf1 := qf (p * 3 + 1)
      have qf2 := qf (p * 3 + 2)
      clear qf e5 LAST HS
      go_simp
      have H5 := HG4.out.put_set HN.out HP.out ⟨xn, tn, sa⟩
      have U5 := set3_upd w4 r0 (p * 3) xn tn sa
      unfold set3 at H5 U5
      obtain ⟨w5, hw5⟩ : ∃ w5, w5 = ((w4.setCell ⟨r0, p * 3, none⟩ (.int .i64 (xn : Int))).setCell ⟨r0, p * 3 + 1, none⟩ (.int .i64 (tn : Int))).setCell ⟨r0, p * 3 + 2, none⟩ (.int .i64 (sa : Int)) := ⟨_, rfl⟩
      rw [← hw5]
      have H6 := hid (show IsG0 w5 g { s with rows := s.rows.set p ⟨xn, tn, sa⟩ } (.slice (some ⟨r0, 0, none⟩) n k) b by rw [hw5]; exact H5)
      have U6 := hid (show Upd F w w5 by rw [hw5]; exact ((HU4.out.mono (T := F) (fun x hx => by cases hx)).trans U5 (fun x hx => .inl (by simp at hx; subst hx; rw [HF.out]; exact mem_foot.2 (.inr (.inr rfl))))))
      have rR : R ∉ [r0] := fun q => by
        have q1 := HR.out
        have q2 := own_lt HG.out.rows r0 rfl
        simp at q
        omega
      have HB6 := hid (show w5.heap[R]? = some (.cells #[.int .i64 (xn : Int), .int .i64 (tn : Int), .int .i64 (sa : Int)] 65 (0, 0)) by rw [hw5]; exact U5.blk HB4.out rR)
      clear H5 U5 q0 q1 q2 qf0 qf1 qf2 hw5 rR
      have KEEP6 := hid (show ∀ wz, Upd [] w5 wz → wz.cell? ⟨g, 3, none⟩ = some (.map (some b)) ∧ wz.cell? ⟨R, 0, none⟩ = some (.int .i64 (xn : Int)) from fun wz u => ⟨(H6.out.new u).cells.2.2.2.1, K.blk_cell (u.blk HB6.out (by simp)) 0⟩)
      obtain ⟨m, hm, hnd, hf⟩ := H6.out.map
      have HM := hid hm
      have HND := hid hnd
      have HFF := hid hf
      clear hm hnd hf
      go_upto_region 12 with (fail)
      refine J.J_begin (fun wz => wz.cell? ⟨g, 3, none⟩ = some (.map (some b)) ∧ wz.cell? ⟨R, 0, none⟩ = some (.int .i64 (xn : Int))) 6 (by kernel_rfl) ⟨by kernel_rfl, by kernel_rfl, by kernel_rfl⟩ (KEEP6.out _ ((Upd.refl [] w5).drew.drew)) (fun LAST HS => ?_)
      refine J.J_take (i := 0) (v := ?_) LAST (by rfl) (by decide) (by kernel_rfl) (by kernel_rfl) (by intro _ _ _ h; exact h) HS (Or.inl ⟨by rfl, ?_⟩) ?_
      rotate_left
      · intro w hSw; (try dsimp only at hSw); go_simp; try with_reducible rfl
      try simp only [Act.put, List.setIfInBounds_toArray, List.set_cons_zero, List.set_cons_succ]
      refine J.J_take (i := 1) (v := ?_) LAST (by rfl) (by decide) (by kernel_rfl) (by kernel_rfl) (by intro _ _ _ h; exact h) HS (Or.inl ⟨by rfl, ?_⟩) ?_
      rotate_left
      · intro w hSw; (try dsimp only at hSw); go_simp; try with_reducible rfl
      try simp only [Act.put, List.setIfInBounds_toArray, List.set_cons_zero, List.set_cons_succ]
      refine J.J_take (i := 2) (v := ?_) LAST (by rfl) (by decide) (by kernel_rfl) (by kernel_rfl) (by intro _ _ _ h; exact h) HS (Or.inl ⟨by rfl, ?_⟩) ?_
      rotate_left
      · intro w hSw; (try dsimp only at hSw); go_simp; try with_reducible rfl
      try simp only [Act.put, List.setIfInBounds_toArray, List.set_cons_zero, List.set_cons_succ]
      refine J.J_take (i := 3) (v := ?_) LAST (by rfl) (by decide) (by kernel_rfl) (by kernel_rfl) (by intro _ _ _ h; exact h) HS (Or.inl ⟨by rfl, ?_⟩) ?_
      rotate_left
      · intro w hSw; (try dsimp only at hSw); go_simp; try with_reducible rfl
      try simp only [Act.put, List.setIfInBounds_toArray, List.set_cons_zero, List.set_cons_succ]
      refine J.J_take (i := 4) (v := ?_) LAST (by rfl) (by decide) (by kernel_rfl) (by kernel_rfl) (by intro _ _ _ h; exact h) HS (Or.inl ⟨by rfl, ?_⟩) ?_
      rotate_left
      · intro w hSw; (try dsimp only at hSw); go_simp; try with_reducible rfl
      try simp only [Act.put, List.setIfInBounds_toArray, List.set_cons_zero, List.set_cons_succ]
      refine J.J_take (i := 5) (v := ?_) LAST (by rfl) (by decide) (by kernel_rfl) (by kernel_rfl) (by intro _ _ _ h; exact h) HS (Or.inl ⟨by rfl, ?_⟩) ?_
      rotate_left
      · intro w hSw; (try dsimp only at hSw); go_simp; try with_reducible rfl
      try simp only [Act.put, List.setIfInBounds_toArray, List.set_cons_zero, List.set_cons_succ]
      refine J.J_last (by rfl) (by kernel_rfl) (by kernel_rfl) ?_
      refine step_del rfl (.tmp 89) (.tmp 91) 84 3 rfl 3 Try.underlying84 Try.underlying3 b m (by rfl) (HM.out.upd ((Upd.refl [] w5).drew.drew) (by simp)) (xn : Int) (by rfl) ?_
      intro w6 hm6 hu6
      have HU7 := hid (((Upd.refl [b] w5).drew.drew).trans hu6 (fun t ht => .inl ht))
      have hb6 := HasMap.of_del HND.out HFF.out hm6
      have H7 := hid (H6.out.map_set HU7.out hb6)
      clear hm6 hu6 hb6
      go_simp
      go_wp2_with fail
      go_end0
      rw [HEG.out, if_pos N2.out, if_neg (fun q => HMM.out (q.trans HME.out.symm))]
      exact ⟨rfl, ⟨_, b, H7.out, HF.out.trans (by rw [HN.out])⟩, U6.out.trans HU7.out (fun x hx => .inl (by simp at hx; subst hx; rw [HF.out]; exact mem_foot.2 (.inr (.inl rfl))))⟩
  · have N2 := hid hN
    have hN' : newer ⟨xn, xt, xs⟩ ⟨xn, tn, sa⟩ = false := by simpa using hN
    have hV0 : V ≤ 0 := EV.2 hN'
    clear EV hV hN hN'
    go_wp2_with fail
    refine bodyPost_ret (results_none rfl _ _ _) rfl ?_
    rw [HEG.out, if_neg N2.out]
    exact ⟨rfl, ⟨_, b, HG.out.new HUW.out, HF.out.trans (by rw [HN.out])⟩, HUW.out.mono (fun x hx => by cases hx)⟩
end Go.Proofs.Ytgkjkgooonicbaa.Gs
