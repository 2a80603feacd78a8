/- Names: cmp.Or at three numbers; order. -/
import Derived.Test.YtbkhjmdklghbiaaDoorNf
namespace Go.Proofs.YtbkhjmdklghbiaaDoor.Nm
open Go Go.RowKit Go.Proofs.YtbkhjmdklghbiaaDoor Go.Proofs.YtbkhjmdklghbiaaDoor.K Go.Proofs.YtbkhjmdklghbiaaDoor.M Go.Proofs.YtbkhjmdklghbiaaDoor.O

def orN (a b c : Int) : Int := if a ≠ 0 then a else if b ≠ 0 then b else c
set_option maxHeartbeats 1000000 in
set_option maxRecDepth 100000 in
theorem or_any (a b c : Int) (H : Nat) (w : World) (hw : w.heap[H]? = some (.cells #[.int .i64 a, .int .i64 b, .int .i64 c] 3 (0, 0))) : Calls Tryd.prog 35 #[.slice (some ⟨H, 0, none⟩) 3 3] w fun e w' => e = .returned (.int .i64 (orN a b c)) ∧ w' = w := by
  have HW := hid hw
  clear hw
  go_enter Tryd.func35, Tryd.ntmps35
  go_wp2_with fail
  go_loopg [8] 3 (fun d v8 wr => ∃ i : Nat, v8 = .int .i64 (i : Int) ∧ Hid (i + d = 3) ∧ Hid (0 < i → a = 0) ∧ Hid (1 < i → b = 0) ∧ Hid (2 < i → c = 0) ∧ wr = w)
  case atStart => exact ⟨0, rfl, hid rfl, hid (fun h => by omega), hid (fun h => by omega), hid (fun h => by omega), rfl⟩
  case round =>
    obtain ⟨i, rfl, Hd, HA, HB, HC, hwr⟩ := hrel
    have hwr' := hwr.symm
    subst hwr'
    clear hwr
    have c0 := (K.blk_cell HW.out 0).trans rfl
    have c1 := (K.blk_cell HW.out 1).trans rfl
    have c2 := (K.blk_cell HW.out 2).trans rfl
    have hi3 : i = 0 ∨ i = 1 ∨ i = 2 ∨ i = 3 := by have := Hd.out; omega
    rcases hi3 with rfl | rfl | rfl | rfl
    · by_cases ha : a = 0
      · have hz : (a != 0) = false := by simp [ha]
        have HZ := hid ha
        clear ha
        go_wp2_with fail
        go_roundg 2
        case measure => have := Hd.out; omega
        case rel => exact ⟨1, rfl, hid rfl, hid (fun _ => HZ.out), hid (fun h => by omega), hid (fun h => by omega), rfl⟩
      · have hz : (a != 0) = true := by simp [ha]
        have HZ := hid ha
        clear ha
        go_wp2_with fail
        go_ret
        exact ⟨by rw [show orN a b c = a by unfold orN; rw [if_pos HZ.out]]; rfl, rfl⟩
    · have HZ := hid (HA.out (by omega))
      by_cases hb : b = 0
      · have hz : (b != 0) = false := by simp [hb]
        have HZ2 := hid hb
        clear hb
        go_wp2_with fail
        go_roundg 1
        case measure => have := Hd.out; omega
        case rel => exact ⟨2, rfl, hid rfl, hid (fun _ => HZ.out), hid (fun _ => HZ2.out), hid (fun h => by omega), rfl⟩
      · have hz : (b != 0) = true := by simp [hb]
        have HZ2 := hid hb
        clear hb
        go_wp2_with fail
        go_ret
        exact ⟨by rw [show orN a b c = b by unfold orN; rw [if_neg (by simp [HZ.out]), if_pos HZ2.out]]; rfl, rfl⟩
    · have HZ := hid (HA.out (by omega))
      have HZ2 := hid (HB.out (by omega))
      by_cases hb : c = 0
      · have hz : (c != 0) = false := by simp [hb]
        have HZ3 := hid hb
        clear hb
        go_wp2_with fail
        go_roundg 0
        case measure => have := Hd.out; omega
        case rel => exact ⟨3, rfl, hid rfl, hid (fun _ => HZ.out), hid (fun _ => HZ2.out), hid (fun _ => HZ3.out), rfl⟩
      · have hz : (c != 0) = true := by simp [hb]
        clear hb
        go_wp2_with fail
        go_ret
        exact ⟨by rw [show orN a b c = c by unfold orN; rw [if_neg (by simp [HZ.out]), if_neg (by simp [HZ2.out])]]; rfl, rfl⟩
    · have HZ := hid (HA.out (by omega))
      have HZ2 := hid (HB.out (by omega))
      have HZ3 := hid (HC.out (by omega))
      go_wp2_with fail
      go_ret
      exact ⟨by rw [show orN a b c = 0 by unfold orN; rw [if_neg (by simp [HZ.out]), if_neg (by simp [HZ2.out]), HZ3.out]]; rfl, rfl⟩

/-- The later row counts. -/
def newer (x r : Row) : Bool := decide (x.count < r.count ∨ (x.count = r.count ∧ (x.node < r.node ∨ (x.node = r.node ∧ x.ref < r.ref))))
def ordN (x r : Row) : Int := orN (cmpN x.count r.count) (cmpN x.node r.node) (cmpN x.ref r.ref)
theorem ord_newer (x r : Row) : ordN x r < 0 ↔ newer x r = true := by
  unfold ordN orN cmpN newer
  rw [decide_eq_true_eq]
  by_cases h1 : x.count < r.count
  · simp [h1]
  · by_cases h2 : r.count < x.count
    · simp [h1, h2]; omega
    · have e : x.count = r.count := by omega
      simp [e]
      by_cases h3 : x.node < r.node
      · simp [h3]
      · by_cases h4 : r.node < x.node
        · simp [h3, h4]; omega
        · have e : x.node = r.node := by omega
          simp [e]
          by_cases h5 : x.ref < r.ref
          · simp [h5]
          · by_cases h6 : r.ref < x.ref
            · simp [h5, h6]
            · simp [h5, h6]
set_option maxHeartbeats 8000000 in
set_option maxRecDepth 100000 in
theorem order_any (x r : Row) (w : World) : Calls Tryd.prog 28 #[.agg (rowVals x).toArray, .agg (rowVals r).toArray] w fun e w' => e = .returned (.int .i64 (ordN x r)) ∧ Upd [] w w' := by
  obtain ⟨xn, xr, xc, xo⟩ := x
  obtain ⟨rn, rr, rc, ro⟩ := r
  unfold rowVals ordN
  simp only
  obtain ⟨s, hs⟩ : ∃ s, s = nmS xn := ⟨_, rfl⟩
  obtain ⟨s', hs'⟩ : ∃ s, s = nmS rn := ⟨_, rfl⟩
  rw [← hs, ← hs']
  have C1 := fun w => hid (compare_int xc rc w)
  have C2 := fun w => hid (compare_int xo ro w)
  have C3 := fun w => hid (compare_int xr rr w)
  obtain ⟨k1, hk1⟩ : ∃ k, k = cmpN xc rc := ⟨_, rfl⟩
  obtain ⟨k2, hk2⟩ : ∃ k, k = cmpN xo ro := ⟨_, rfl⟩
  obtain ⟨k3, hk3⟩ : ∃ k, k = cmpN xr rr := ⟨_, rfl⟩
  rw [← hk1] at C1 ⊢
  rw [← hk2] at C2 ⊢
  rw [← hk3] at C3 ⊢
  clear hk1 hk2 hk3 hs hs'
  obtain ⟨X, hX⟩ : ∃ X, X = w.heap.size := ⟨_, rfl⟩
  obtain ⟨w1, hw1⟩ : ∃ w1, w1 = w.alloc (.cells #[.string s, .int .i64 (xr : Int), .int .i64 (xc : Int), .int .i64 (xo : Int)] 40) := ⟨_, rfl⟩
  obtain ⟨w2, hw2⟩ : ∃ w2, w2 = w1.alloc (.cells #[.string s', .int .i64 (rr : Int), .int .i64 (rc : Int), .int .i64 (ro : Int)] 40) := ⟨_, rfl⟩
  have s1 : w1.heap.size = X + 1 := by rw [hw1, hX]; simp
  have b1 : w1.heap[X]? = some (.cells #[.string s, .int .i64 (xr : Int), .int .i64 (xc : Int), .int .i64 (xo : Int)] 40 (0, 0)) := by rw [hw1, hX]; exact K.blk_new w _
  have b2 : w2.heap[X]? = some (.cells #[.string s, .int .i64 (xr : Int), .int .i64 (xc : Int), .int .i64 (xo : Int)] 40 (0, 0)) := by rw [hw2]; exact K.blk_alloc b1 _
  have b3 : w2.heap[X + 1]? = some (.cells #[.string s', .int .i64 (rr : Int), .int .i64 (rc : Int), .int .i64 (ro : Int)] 40 (0, 0)) := by rw [hw2, ← s1]; exact K.blk_new w1 _
  have U2 := hid (show Upd [] w w2 by rw [hw2, hw1]; exact ((Upd.refl [] w).alloc _).alloc _)
  have x1 : w2.cell? ⟨X, 1, none⟩ = some (.int .i64 (xr : Int)) := K.blk_cell b2 1
  have x2 : w2.cell? ⟨X, 2, none⟩ = some (.int .i64 (xc : Int)) := K.blk_cell b2 2
  have x3 : w2.cell? ⟨X, 3, none⟩ = some (.int .i64 (xo : Int)) := K.blk_cell b2 3
  have y1 : w2.cell? ⟨X + 1, 1, none⟩ = some (.int .i64 (rr : Int)) := K.blk_cell b3 1
  have y2 : w2.cell? ⟨X + 1, 2, none⟩ = some (.int .i64 (rc : Int)) := K.blk_cell b3 2
  have y3 : w2.cell? ⟨X + 1, 3, none⟩ = some (.int .i64 (ro : Int)) := K.blk_cell b3 3
  have l1 : X < w2.heap.size := K.blk_lt b2
  have l2 : X + 1 < w2.heap.size := K.blk_lt b3
  have n1 : w2.heap.size ≠ X := by omega
  have n2 : w2.heap.size ≠ X + 1 := by omega
  go_enter Tryd.func28, Tryd.ntmps28
  go_upto_region 1 with (fail)
  rw [← hw1, ← hw2, ← hX]
  clear hw1 hw2 hX s1 b1 b2 b3
  have KEEP := hid (show ∀ wz, Upd [] w2 wz → wz.cell? ⟨X, 1, none⟩ = some (.int .i64 (xr : Int)) ∧ wz.cell? ⟨X, 2, none⟩ = some (.int .i64 (xc : Int)) ∧ wz.cell? ⟨X, 3, none⟩ = some (.int .i64 (xo : Int)) ∧ wz.cell? ⟨X + 1, 1, none⟩ = some (.int .i64 (rr : Int)) ∧ wz.cell? ⟨X + 1, 2, none⟩ = some (.int .i64 (rc : Int)) ∧ wz.cell? ⟨X + 1, 3, none⟩ = some (.int .i64 (ro : Int)) from fun wz u => ⟨u.cell x1 (by simp), u.cell x2 (by simp), u.cell x3 (by simp), u.cell y1 (by simp), u.cell y2 (by simp), u.cell y3 (by simp)⟩)
  have ua := hid (show Upd [] w2 (w2.drew.alloc (.cells #[.int .i64 k1, .int .i64 k2, .int .i64 k3] 3)) from ((Upd.refl [] w2).drew).alloc _)
  clear x1 x2 x3 y1 y2 y3 l1 l2 n1 n2
  refine J.J_begin (fun w' => w'.cell? ⟨X, 1, none⟩ = some (.int .i64 (xr : Int)) ∧ w'.cell? ⟨X, 2, none⟩ = some (.int .i64 (xc : Int)) ∧ w'.cell? ⟨X, 3, none⟩ = some (.int .i64 (xo : Int)) ∧ w'.cell? ⟨X + 1, 1, none⟩ = some (.int .i64 (rr : Int)) ∧ w'.cell? ⟨X + 1, 2, none⟩ = some (.int .i64 (rc : Int)) ∧ w'.cell? ⟨X + 1, 3, none⟩ = some (.int .i64 (ro : Int))) 17 (by kernel_rfl) ⟨by kernel_rfl, by kernel_rfl, by kernel_rfl⟩ (KEEP.out _ ((Upd.refl [] w2).drew)) (fun LAST HS => ?_)
  refine J.J_take (i := 0) (v := ?_) LAST (by rfl) (by decide) (by kernel_rfl) (by kernel_rfl) (by intro _ _ _ h; exact h) HS (Or.inl ⟨by rfl, ?_⟩) ?_
  rotate_left
  · intro w hSw; (try dsimp only at hSw); go_simp; try with_reducible rfl
  try simp only [Act.put, List.setIfInBounds_toArray, List.set_cons_zero, List.set_cons_succ]
  refine J.J_take (i := 1) (v := ?_) LAST (by rfl) (by decide) (by kernel_rfl) (by kernel_rfl) (by intro _ _ _ h; exact h) HS (Or.inl ⟨by rfl, ?_⟩) ?_
  rotate_left
  · intro w hSw; (try dsimp only at hSw); go_simp; try with_reducible rfl
  try simp only [Act.put, List.setIfInBounds_toArray, List.set_cons_zero, List.set_cons_succ]
  refine J.J_take (i := 2) (v := ?_) LAST (by rfl) (by decide) (by kernel_rfl) (by kernel_rfl) (by intro _ _ _ h; exact h) HS (Or.inl ⟨by rfl, ?_⟩) ?_
  rotate_left
  · intro w hSw; (try dsimp only at hSw); go_simp; try with_reducible rfl
  try simp only [Act.put, List.setIfInBounds_toArray, List.set_cons_zero, List.set_cons_succ]
  refine J.J_take (i := 3) (v := ?_) LAST (by rfl) (by decide) (by kernel_rfl) (by kernel_rfl) (by intro _ _ _ h; exact h) HS (Or.inl ⟨by rfl, ?_⟩) ?_
  rotate_left
  · intro w hSw; (try dsimp only at hSw); go_simp; try with_reducible rfl
  try simp only [Act.put, List.setIfInBounds_toArray, List.set_cons_zero, List.set_cons_succ]
  refine J.J_take (i := 5) (v := ?_) LAST (by rfl) (by decide) (by kernel_rfl) (by kernel_rfl) (by intro _ _ _ h; exact h) HS (Or.inl ⟨by rfl, ?_⟩) ?_
  rotate_left
  · intro w hSw; (try dsimp only at hSw); go_simp; try with_reducible rfl
  try simp only [Act.put, List.setIfInBounds_toArray, List.set_cons_zero, List.set_cons_succ]
  refine J.J_take (i := 6) (v := ?_) LAST (by rfl) (by decide) (by kernel_rfl) (by kernel_rfl) (by intro _ _ _ h; exact h) HS (Or.inl ⟨by rfl, ?_⟩) ?_
  rotate_left
  · intro w hSw; (try dsimp only at hSw); go_simp; try with_reducible rfl
  try simp only [Act.put, List.setIfInBounds_toArray, List.set_cons_zero, List.set_cons_succ]
  refine J.J_take (i := 7) (v := ?_) LAST (by rfl) (by decide) (by kernel_rfl) (by kernel_rfl) (by intro _ _ _ h; exact h) HS (Or.inl ⟨by rfl, ?_⟩) ?_
  rotate_left
  · intro w hSw; (try dsimp only at hSw); go_simp; try with_reducible rfl
  try simp only [Act.put, List.setIfInBounds_toArray, List.set_cons_zero, List.set_cons_succ]
  refine J.J_take (i := 8) (v := ?_) LAST (by rfl) (by decide) (by kernel_rfl) (by kernel_rfl) (by intro _ _ _ h; exact h) HS (Or.inl ⟨by rfl, ?_⟩) ?_
  rotate_left
  · intro w hSw; (try dsimp only at hSw); go_simp; try with_reducible rfl
  try simp only [Act.put, List.setIfInBounds_toArray, List.set_cons_zero, List.set_cons_succ]
  refine J.J_take (i := 10) (v := ?_) LAST (by rfl) (by decide) (by kernel_rfl) (by kernel_rfl) (by intro _ _ _ h; exact h) HS (Or.inl ⟨by rfl, ?_⟩) ?_
  rotate_left
  · intro w hSw; (try dsimp only at hSw); go_simp; try with_reducible rfl
  try simp only [Act.put, List.setIfInBounds_toArray, List.set_cons_zero, List.set_cons_succ]
  refine J.J_take (i := 11) (v := ?_) LAST (by rfl) (by decide) (by kernel_rfl) (by kernel_rfl) (by intro _ _ _ h; exact h) HS (Or.inl ⟨by rfl, ?_⟩) ?_
  rotate_left
  · intro w hSw; (try dsimp only at hSw); go_simp; try with_reducible rfl
  try simp only [Act.put, List.setIfInBounds_toArray, List.set_cons_zero, List.set_cons_succ]
  refine J.J_take (i := 12) (v := ?_) LAST (by rfl) (by decide) (by kernel_rfl) (by kernel_rfl) (by intro _ _ _ h; exact h) HS (Or.inl ⟨by rfl, ?_⟩) ?_
  rotate_left
  · intro w hSw; (try dsimp only at hSw); go_simp; try with_reducible rfl
  try simp only [Act.put, List.setIfInBounds_toArray, List.set_cons_zero, List.set_cons_succ]
  refine J.J_take (i := 13) (v := ?_) LAST (by rfl) (by decide) (by kernel_rfl) (by kernel_rfl) (by intro _ _ _ h; exact h) HS (Or.inl ⟨by rfl, ?_⟩) ?_
  rotate_left
  · intro w hSw; (try dsimp only at hSw); go_simp; try with_reducible rfl
  try simp only [Act.put, List.setIfInBounds_toArray, List.set_cons_zero, List.set_cons_succ]
  refine J.J_one (i := 4) (by rfl) (by decide) (by kernel_rfl) (fun KK hK => ?_)
  go_simp
  refine (C1 _).out.mono ?_
  rintro e w' ⟨rfl, rfl⟩
  go_simp
  refine hK.out _ _ HS ?_
  clear hK KK
  try simp only [List.setIfInBounds_toArray]
  refine J.J_one (i := 9) (by rfl) (by decide) (by kernel_rfl) (fun KK hK => ?_)
  go_simp
  refine (C2 _).out.mono ?_
  rintro e w' ⟨rfl, rfl⟩
  go_simp
  refine hK.out _ _ HS ?_
  clear hK KK
  try simp only [List.setIfInBounds_toArray]
  refine J.J_one (i := 14) (by rfl) (by decide) (by kernel_rfl) (fun KK hK => ?_)
  go_simp
  refine (C3 _).out.mono ?_
  rintro e w' ⟨rfl, rfl⟩
  go_simp
  refine hK.out _ _ HS ?_
  clear hK KK
  try simp only [List.setIfInBounds_toArray]
  refine J.J_one (i := 15) (by rfl) (by decide) (by kernel_rfl) (fun KK hK => ?_)
  go_simp
  refine hK.out _ _ (KEEP.out _ ua.out) ?_
  clear hK KK
  try simp only [List.setIfInBounds_toArray]
  refine J.J_one (i := 16) (by rfl) (by decide) (by kernel_rfl) (fun KK hK => ?_)
  go_simp
  refine (or_any k1 k2 k3 _ _ (K.blk_new w2.drew _)).mono ?_
  rintro e w' ⟨rfl, rfl⟩
  go_simp
  refine hK.out _ _ (KEEP.out _ ua.out) ?_
  clear hK KK
  try simp only [List.setIfInBounds_toArray]
  refine J.J_last (by rfl) (by kernel_rfl) (by kernel_rfl) ?_
  clear LAST HS
  go_simp
  go_wp2_with fail
  go_ret
  exact ⟨rfl, U2.out.trans ua.out (fun t ht => by cases ht)⟩
end Go.Proofs.YtbkhjmdklghbiaaDoor.Nm
