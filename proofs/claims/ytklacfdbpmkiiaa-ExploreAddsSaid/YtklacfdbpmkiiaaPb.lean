/- part.Check, part.Depend. -/
import Derived.Test.YtklacfdbpmkiiaaPa
namespace Go.Proofs.Ytklacfdbpmkiiaa.Pa
open Go Go.RowKit Go.Proofs.Ytklacfdbpmkiiaa Go.Proofs.Ytklacfdbpmkiiaa.K Go.Proofs.Ytklacfdbpmkiiaa.M Go.Proofs.Ytklacfdbpmkiiaa.O Go.Proofs.Ytklacfdbpmkiiaa.R
set_option maxHeartbeats 4000000 in
set_option maxRecDepth 100000 in
theorem check_any (a : Option Addr) (xs : List St) (n k : Nat) (w : World) (hn : n = xs.length) (h40 : n ≤ 40) (hx : StepAt w a xs) : Calls Try.prog 31 #[.slice a n k] w fun e w' => e = .returned (.int .i64 0) ∧ Upd [] w w' := by
  have HN := hid hn
  have HX := hid hx
  clear hn hx
  have hc : ¬ (40 : Int) < (n : Int) := by omega
  go_enter Try.func31, Try.ntmps31
  go_wp2_with fail
  go_loopg [10] n (fun d v10 wr => ∃ (i : Nat), v10 = .int .i64 (i : Int) ∧ i ≤ n ∧ Hid (i + d = n) ∧ Hid (Upd [] w wr))
  case atStart => exact ⟨0, rfl, by omega, hid (by omega), hid (Upd.refl [] w)⟩
  case round =>
    obtain ⟨i, rfl, hi, Hd, HU⟩ := hrel
    by_cases hin : i < n
    · have hi' : (i : Int) < (n : Int) := by omega
      obtain ⟨g, rfl, c0, c1, c2⟩ := (HX.out.upd HU.out) i (by rw [← HN.out]; exact hin)
      obtain ⟨⟨⟨p, hp⟩, ⟨q, hq⟩, ⟨r, hr⟩⟩, he⟩ : ∃ s, s = xs[i]'(by rw [← HN.out]; exact hin) := ⟨_, rfl⟩
      rw [← he] at c0 c1 c2
      clear he
      dsimp only at c0 c1 c2
      have e0 : ¬ (p : Int) < 0 := by omega
      have e1 : ¬ (8 : Int) ≤ (p : Int) := by omega
      have e2 : ¬ (q : Int) < 0 := by omega
      have e3 : ¬ (256 : Int) ≤ (q : Int) := by omega
      have e4 : ¬ (r : Int) < 0 := by omega
      have e5 : ¬ (256 : Int) ≤ (r : Int) := by omega
      go_wp2_with fail
      go_roundg (n - (i + 1))
      case measure => have := Hd.out; omega
      case rel => exact ⟨i + 1, by go_num, by omega, hid (by omega), hid (HU.out.alloc _)⟩
    · have hi' : ¬ (i : Int) < (n : Int) := by omega
      go_wp2_with fail
      go_ret
      exact ⟨rfl, HU.out⟩
end Go.Proofs.Ytklacfdbpmkiiaa.Pa
