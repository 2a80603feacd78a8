/- The walk of Rest: a number from 0 to n-1. -/
import Derived.Test.YtklacfdbpmkiiaaProg
import Derived.Test.YtklacfdbpmkiiaaK
import Derived.IntWalk
namespace Go.Proofs.Ytklacfdbpmkiiaa.R
open Go Go.RowKit Go.Proofs.Ytklacfdbpmkiiaa.K

theorem rest_num (a n : Int) (h1 : 1 ≤ n) (h2 : n ≤ 1000000) : wrap64 ((IntKind.u64.wrap a).tmod n) = (restN a n : Int) := by
  have h0 : 0 ≤ IntKind.u64.wrap a := by rw [IntKind.wrap_u64]; omega
  rw [Int.tmod_eq_emod_of_nonneg h0, ← restN_eq a n h1]
  have := restN_lt a n h1
  unfold wrap64; omega

set_option maxHeartbeats 1000000 in
set_option maxRecDepth 100000 in
theorem rest_any (a n : Int) (w : World) (h1 : 1 ≤ n) (h2 : n ≤ 1000000) : Calls Try.prog 11 #[.int .i64 a, .int .i64 n] w fun e w' => e = .returned (.int .i64 (restN a n : Int)) ∧ w = w' := by
  have hn : IntKind.u64.wrap n = n := by rw [IntKind.wrap_u64]; omega
  have hn0 : ¬ n = 0 := by omega
  go_enter Try.func11, Try.ntmps11
  go_wp2
  go_ret
  exact ⟨ret_int (rest_num a n h1 h2), rfl⟩

/-- The same, the number under a name. -/
theorem rest_some (a n : Int) (w : World) (h1 : 1 ≤ n) (h2 : n ≤ 1000000) : Calls Try.prog 11 #[.int .i64 a, .int .i64 n] w fun e w' => ∃ r : Nat, (r : Int) < n ∧ Hid (r = restN a n) ∧ e = .returned (.int .i64 (r : Int)) ∧ w = w' :=
  (rest_any a n w h1 h2).mono fun _ _ ⟨he, hw⟩ => ⟨_, restN_lt a n h1, rfl, he, hw⟩
end Go.Proofs.Ytklacfdbpmkiiaa.R
