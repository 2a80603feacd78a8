/- part.Check, part.Depend. -/
import Derived.Test.YtklacfdbpmkiiaaPb
namespace Go.Proofs.Ytklacfdbpmkiiaa.Pa
open Go Go.RowKit Go.Proofs.Ytklacfdbpmkiiaa Go.Proofs.Ytklacfdbpmkiiaa.K Go.Proofs.Ytklacfdbpmkiiaa.M Go.Proofs.Ytklacfdbpmkiiaa.O Go.Proofs.Ytklacfdbpmkiiaa.R
theorem two_at (w : World) (a b : St) : StepAt (w.alloc (.cells #[.int .i64 ((a.who.val : Nat) : Int), .int .i64 ((a.rd.val : Nat) : Int), .int .i64 ((a.wr.val : Nat) : Int), .int .i64 ((b.who.val : Nat) : Int), .int .i64 ((b.rd.val : Nat) : Int), .int .i64 ((b.wr.val : Nat) : Int)] 56)) (some ⟨w.heap.size, 0, none⟩) [a, b] := fun i hi => by
  have h := K.blk_new w (.cells #[.int .i64 ((a.who.val : Nat) : Int), .int .i64 ((a.rd.val : Nat) : Int), .int .i64 ((a.wr.val : Nat) : Int), .int .i64 ((b.who.val : Nat) : Int), .int .i64 ((b.rd.val : Nat) : Int), .int .i64 ((b.wr.val : Nat) : Int)] 56)
  refine ⟨w.heap.size, rfl, ?_⟩
  rw [K.blk_cell h, K.blk_cell h, K.blk_cell h]
  match i, hi with
  | 0, _ => exact ⟨rfl, rfl, rfl⟩
  | 1, _ => exact ⟨rfl, rfl, rfl⟩
set_option maxHeartbeats 4000000 in
set_option maxRecDepth 100000 in
theorem Depend_any (a b : St) (w : World) : Calls Try.prog 40 #[.agg (stc a).toArray, .agg (stc b).toArray] w fun e w' => e = .returned (.tuple #[.bool (depS a b), .int .i64 0]) ∧ Upd [] w w' := by
  have DP := fun w => hid (depend_any a b w)
  have TA := fun w => hid (two_at w a b)
  unfold stc at DP ⊢
  obtain ⟨d, hd⟩ : ∃ d, d = depS a b := ⟨_, rfl⟩
  rw [← hd] at DP ⊢
  clear hd
  obtain ⟨p, hp⟩ : ∃ p : Nat, p = a.who.val := ⟨_, rfl⟩
  obtain ⟨q, hq⟩ : ∃ p : Nat, p = a.rd.val := ⟨_, rfl⟩
  obtain ⟨r, hr⟩ : ∃ p : Nat, p = a.wr.val := ⟨_, rfl⟩
  obtain ⟨p2, hp2⟩ : ∃ p : Nat, p = b.who.val := ⟨_, rfl⟩
  obtain ⟨q2, hq2⟩ : ∃ p : Nat, p = b.rd.val := ⟨_, rfl⟩
  obtain ⟨r2, hr2⟩ : ∃ p : Nat, p = b.wr.val := ⟨_, rfl⟩
  rw [← hp, ← hq, ← hr, ← hp2, ← hq2, ← hr2] at DP TA ⊢
  clear hp hq hr hp2 hq2 hr2
  go_enter Try.func40, Try.ntmps40
  go_wp2_with fail
  obtain ⟨X, hX⟩ : ∃ X, X = w.heap.size := ⟨_, rfl⟩
  have bX := K.blk_new w (.cells #[.int .i64 (p : Int), .int .i64 (q : Int), .int .i64 (r : Int)] 56)
  obtain ⟨wa, hwa⟩ : ∃ wa, wa = w.alloc (.cells #[.int .i64 (p : Int), .int .i64 (q : Int), .int .i64 (r : Int)] 56) := ⟨_, rfl⟩
  have sA : wa.heap.size = X + 1 := by rw [hwa, hX]; simp
  rw [← hwa] at bX ⊢
  have bY := K.blk_new wa (.cells #[.int .i64 (p2 : Int), .int .i64 (q2 : Int), .int .i64 (r2 : Int)] 56)
  obtain ⟨wb, hwb⟩ : ∃ wb, wb = wa.alloc (.cells #[.int .i64 (p2 : Int), .int .i64 (q2 : Int), .int .i64 (r2 : Int)] 56) := ⟨_, rfl⟩
  have uA := hid (show Upd [] w wb by rw [hwb, hwa]; exact ((Upd.refl [] w).alloc _).alloc _)
  have bX2 : wb.heap[X]? = some (.cells #[.int .i64 (p : Int), .int .i64 (q : Int), .int .i64 (r : Int)] 56 (0, 0)) := by rw [hwb, hX]; exact K.blk_alloc bX _
  have sB : wb.heap.size = X + 1 + 1 := by rw [hwb]; simp [sA]
  rw [← hwb] at bY ⊢
  rw [sA] at bY
  have TB := (TA wb).out
  rw [sB] at TB
  rw [← hX]
  clear hX bX hwa hwb TA
  refine (check_any _ [a, b] 2 2 _ rfl (by omega) TB).mono ?_
  rintro e w1 ⟨rfl, hu⟩
  have u1 := ((Upd.refl [] wb).alloc (.cells #[.int .i64 (p : Int), .int .i64 (q : Int), .int .i64 (r : Int), .int .i64 (p2 : Int), .int .i64 (q2 : Int), .int .i64 (r2 : Int)] 56)).trans hu (fun t ht => by cases ht)
  have b1 := hid (u1.blk bX2 (by simp))
  have b2 := hid (u1.blk bY (by simp))
  have k0 : w1.cell? ⟨X, 0, none⟩ = some (.int .i64 (p : Int)) := K.blk_cell b1.out 0
  have k1 : w1.cell? ⟨X, 1, none⟩ = some (.int .i64 (q : Int)) := K.blk_cell b1.out 1
  have k2 : w1.cell? ⟨X, 2, none⟩ = some (.int .i64 (r : Int)) := K.blk_cell b1.out 2
  have l0 : w1.cell? ⟨X + 1, 0, none⟩ = some (.int .i64 (p2 : Int)) := K.blk_cell b2.out 0
  have l1 : w1.cell? ⟨X + 1, 1, none⟩ = some (.int .i64 (q2 : Int)) := K.blk_cell b2.out 1
  have l2 : w1.cell? ⟨X + 1, 2, none⟩ = some (.int .i64 (r2 : Int)) := K.blk_cell b2.out 2
  have U1 := hid (uA.out.trans u1 (fun t ht => by cases ht))
  clear hu u1 bX2 bY TB
  go_wp2_with fail
  refine (DP w1).out.mono ?_
  rintro e w2 ⟨rfl, hu2⟩
  have U2 := hid (U1.out.trans hu2 (fun t ht => by cases ht))
  clear hu2
  go_wp2_with fail
  go_ret2
  exact ⟨rfl, U2.out⟩
end Go.Proofs.Ytklacfdbpmkiiaa.Pa
