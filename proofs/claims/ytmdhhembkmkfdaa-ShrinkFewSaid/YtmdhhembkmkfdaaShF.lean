/- The walk of the statement ShrinkFew. -/
import Derived.Test.YtmdhhembkmkfdaaShL
import Derived.Test.YtmdhhembkmkfdaaR
namespace Go.Proofs.Ytmdhhembkmkfdaa.Sh
open Go Go.RowKit Go.Proofs.Ytmdhhembkmkfdaa.K Go.Proofs.Ytmdhhembkmkfdaa.O Go.Proofs.Ytmdhhembkmkfdaa.CL Go.Proofs.Ytmdhhembkmkfdaa.R

theorem row_12 (w : World) : LRow (w.alloc (.cells #[.int .i64 1, .int .i64 2] 3)) (some ⟨w.heap.size, 0, none⟩) 2 2 := by
  refine ⟨[1, 2], ?_, rfl, by omega, by omega⟩
  intro i hi
  refine ⟨_, rfl, ?_⟩
  have h := blk_new w (.cells #[.int .i64 1, .int .i64 2] 3)
  have e : (⟨w.heap.size, 0, none⟩ : Addr).add i = ⟨w.heap.size, i, none⟩ := by unfold Addr.add; split <;> simp_all
  rw [e, blk_cell h]
  match i, hi with
  | 0, _ => rfl
  | 1, _ => rfl
theorem list_12 (w : World) : Calls Try.prog 32 #[.slice (some ⟨w.heap.size, 0, none⟩) 2 2, .func (.func 33) #[] #[]] (w.alloc (.cells #[.int .i64 1, .int .i64 2] 3)) fun e w' =>
    (∃ x d, e = .returned (.tuple #[.slice x 1 d, .int .i64 0])) ∧ Upd [] w w' :=
  (list33 _ 2 2 1 _ rfl (row_12 w) (by omega)).mono fun e w' ⟨h, hu⟩ => ⟨h, ((Upd.refl _ _).alloc _).trans hu (by simp)⟩

theorem list_at (w : World) (o : Obj) : Calls Try.prog 32 #[.slice (some ⟨w.heap.size + 1, 0, none⟩) 2 2, .func (.func 33) #[] #[]] ((w.alloc o).alloc (.cells #[.int .i64 1, .int .i64 2] 3)) fun e w' =>
    (∃ x d, e = .returned (.tuple #[.slice x 1 d, .int .i64 0])) ∧ Upd [] (w.alloc o) w' := by
  have h := list_12 (w.alloc o)
  rw [World.size_alloc] at h
  exact h

set_option maxHeartbeats 400000 in
set_option maxRecDepth 100000 in
theorem few_walk (a : Option Addr) (len cap : Nat) (a1 : Int) (w : World) (h : LRow w a len cap) :
    Calls Try.prog 7 #[.slice a len cap, .int .i64 a1] w fun e w' => e = .returned (.bool true) ∧ Upd [] w w' := by
  have HR := hid h
  have hlc : len ≤ cap ∧ cap ≤ 9223372036854775807 := by obtain ⟨_, _, _, h1, h2⟩ := h; exact ⟨h1, h2⟩
  obtain ⟨hlc, hc⟩ := hlc
  clear h
  obtain ⟨n, hn⟩ : ∃ n : Nat, min (len : Int) 200 = (n : Int) := ⟨min len 200, by omega⟩
  have hmin := fun ats ty => min_nat ats ty .i64 .i64 (len : Int) 200 n hn
  have hn1 : n ≤ len := by omega
  have hn2 : n ≤ 200 := by omega
  have hnc : n ≤ cap := by omega
  clear hn
  go_enter Try.func7, Try.ntmps7
  go_wp2_with fail
  refine (list_at w _).mono ?_
  rintro e w1 ⟨⟨x, d, rfl⟩, hu⟩
  have HU1 := hid ((((Upd.refl [] w).alloc _)).trans hu (by simp))
  have hb1 := hu.blk (blk_new w (.cells #[.int .i64 a1] 3)) (by simp)
  have HB1 := hid hb1
  have hcell : w1.cell? ⟨w.heap.size, 0, none⟩ = some (.int .i64 a1) := (blk_cell hb1 0).trans rfl
  have hfr : w1.frozen? ⟨w.heap.size, 0, none⟩ = false := blk_frozen hb1 0
  clear hu hb1
  go_wp2_with fail
  refine (rest_some _ _ _ (by omega) (by omega)).mono ?_
  rintro e w' ⟨r, hr, -, rfl, rfl⟩
  obtain ⟨w2, hw2⟩ : ∃ w2, w2 = w1.setCell ⟨w.heap.size, 0, none⟩ (.int .i64 (r : Int)) := ⟨_, rfl⟩
  have hb2 := blk_set HB1.out 0 (.int .i64 (r : Int))
  rw [← hw2] at hb2
  have hU2 : Upd [] w w2 := by rw [hw2]; exact HU1.out.setCell (.inr (Nat.le_refl _)) _
  have HB2 := hid hb2
  have HU2 := hid hU2
  have hcell2 : w2.cell? ⟨w.heap.size, 0, none⟩ = some (.int .i64 (r : Int)) := (blk_cell hb2 0).trans rfl
  clear hU2 hb2
  go_wp2_with fail
  rw [← hw2]
  clear hw2 hcell hfr
  have HC2 := hid hcell2
  clear hcell2
  refine (list34 a n cap w.heap.size r w2 HC2.out ((HR.out.upd HU2.out).take hn1) hn2).mono ?_
  rintro e w3 ⟨⟨x3, d3, rfl⟩, hu⟩
  have hb3 := hu.blk HB2.out (by simp)
  have hcell3 : w3.cell? ⟨w.heap.size, 0, none⟩ = some (.int .i64 (r : Int)) := (blk_cell hb3 0).trans rfl
  have HU3 := hid (HU2.out.trans hu (by simp))
  clear hu hb3
  by_cases hk : r ≤ n
  · rw [if_pos hk, if_pos hk]
    go_wp2_with fail
    go_ret
    exact ⟨ret_bool (by simp), HU3.out⟩
  · rw [if_neg hk, if_neg hk]
    go_wp2_with fail
    go_ret
    exact ⟨ret_bool (by simp), HU3.out⟩
end Go.Proofs.Ytmdhhembkmkfdaa.Sh
