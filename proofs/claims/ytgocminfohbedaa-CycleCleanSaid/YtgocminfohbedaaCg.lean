/- slices.IsSorted, slices.Contains at rows of one's own. -/
import Derived.Test.YtgocminfohbedaaCf
import Derived.BigQuiet
namespace Go.Proofs.Ytgocminfohbedaa.Cy
open Go Go.RowKit Go.Proofs.Ytgocminfohbedaa Go.Proofs.Ytgocminfohbedaa.K Go.Proofs.Ytgocminfohbedaa.M Go.Proofs.Ytgocminfohbedaa.O Go.Proofs.Ytgocminfohbedaa.So Go.Proofs.Ytgocminfohbedaa.R

theorem sortL_le (xs : List Int) : (sortL xs).Pairwise (fun a b => a ≤ b) := by
  have h := List.pairwise_mergeSort (le := fun x y : Int => decide (x ≤ y)) (fun a b c h1 h2 => by simp at *; omega) (fun a b => by simp; omega) xs
  unfold sortL
  exact h.imp (fun h => by simpa using h)
theorem contains_own {w : World} {B n : Nat} {v : Value} {xs : List Int} (h : w.ownsRow B 3 1 v n (ints xs)) (hn : n = xs.length) (h8 : n ≤ 1000000) (x : Int) :
    Calls Try.prog 12 #[v, .int .i64 x] w fun e w' => e = .returned (.bool (decide (x ∈ xs))) ∧ w' = w := by
  subst hn
  by_cases c : xs = []
  · subst c
    obtain ⟨a, k, e, -⟩ := own_view h
    subst e
    refine (Try.slices_Contains_int_empty a k x w).mono ?_
    rintro e w' ⟨rfl, rfl⟩
    exact ⟨by simp, rfl⟩
  · obtain ⟨r, k, cur, e, hb, hr, -⟩ := own_row h c
    subst e
    refine (Try.slices_Contains_int r 0 xs.length k xs x w (Nat.le_refl _) (by omega) (fun j hj => ?_)).mono ?_
    · obtain ⟨y, e, c⟩ := hr j hj
      cases e
      rw [addz] at c
      rw [Nat.zero_add]
      exact c
    · rintro e w' ⟨rfl, rfl⟩
      rw [List.take_length]
      refine ⟨?_, rfl⟩
      congr 2
      by_cases q : x ∈ xs
      · simp [q]
      · simp [q]
set_option maxHeartbeats 1000000 in
set_option maxRecDepth 100000 in
theorem isNaN_any (a : Int) (w : World) : Calls Try.prog 39 #[.int .i64 a] w fun e w' => e = .returned (.bool false) ∧ w' = w := by
  go_enter Try.func39, Try.ntmps39
  go_wp2_with fail
  go_ret
  exact ⟨by simp, rfl⟩
set_option maxHeartbeats 1000000 in
set_option maxRecDepth 100000 in
theorem less_no (a b : Int) (h : b ≤ a) (w : World) : Calls Try.prog 32 #[.int .i64 a, .int .i64 b] w fun e w' => e = .returned (.bool false) ∧ w' = w := by
  have hn : ¬ a < b := by omega
  clear h
  go_enter Try.func32, Try.ntmps32
  go_wp2_with fail
  refine (isNaN_any a w).mono ?_
  rintro e w' ⟨rfl, rfl⟩
  go_wp2_with fail
  go_ret
  exact ⟨by simp; omega, rfl⟩
set_option maxHeartbeats 4000000 in
set_option maxRecDepth 100000 in
theorem sorted_own {w : World} {B n : Nat} {v : Value} {xs : List Int} (h : w.ownsRow B 3 1 v n (ints xs)) (hn : n = xs.length) (h8 : n ≤ 1000000) (hs : xs.Pairwise (fun a b => a ≤ b)) :
    Calls Try.prog 11 #[v] w fun e w' => e = .returned (.bool true) ∧ Upd [] w w' := by
  subst hn
  obtain ⟨n, hn⟩ : ∃ n, n = xs.length := ⟨_, rfl⟩
  obtain ⟨a, k, ev, -⟩ := own_view h
  have HR : Hid (IntRow w a xs) := hid (by
    by_cases c : xs = []
    · subst c; exact fun i hi => by simp at hi
    · obtain ⟨r, k', cur, e, hb, hr, -⟩ := own_row h c
      rw [e] at ev
      simp only [Value.slice.injEq] at ev
      rw [← ev.1]; exact hr)
  subst ev
  have HS := hid hs
  rw [← hn] at h8 ⊢
  have HN := hid hn
  clear hs h hn
  go_enter Try.func11, Try.ntmps11
  go_wp2_with fail
  go_loopg [3] n (fun d v3 wr => ∃ (u : Int), v3 = .int .i64 u ∧ -1 ≤ u ∧ u < n ∧ Hid (u ≤ d) ∧ Hid (Upd [] w wr))
  case atStart => exact ⟨(n : Int) - 1, rfl, by omega, by omega, hid (by omega), hid (Upd.refl _ _)⟩
  case round =>
    obtain ⟨u, rfl, hu1, hu2, Hd, HU⟩ := hrel
    by_cases hu : 0 < u
    · obtain ⟨i, rfl⟩ : ∃ i : Nat, u = (i : Int) := ⟨u.toNat, by omega⟩
      obtain ⟨j, hj⟩ : ∃ j, j = i - 1 := ⟨_, rfl⟩
      have hwi : IntKind.i64.wrap ((i : Int) - 1) = (j : Int) := by rw [IntWalk.i64_in _ (by omega)]; omega
      have hi2 : 0 < i := by omega
      have hil : i < xs.length := by have := HN.out; omega
      obtain ⟨x1, e1, c1⟩ := HR.out.upd HU.out i hil
      obtain ⟨x2, e2, c2⟩ := HR.out.upd HU.out j (by omega)
      rw [e1] at e2
      cases e2
      have hle : xs.getD j 0 ≤ xs.getD i 0 := by
        rw [List.getD_eq_getElem?_getD, List.getD_eq_getElem?_getD, List.getElem?_eq_getElem hil, List.getElem?_eq_getElem (show j < xs.length by omega)]
        exact List.pairwise_iff_getElem.1 HS.out j i (by omega) hil (by omega)
      subst e1
      obtain ⟨y1, hy1⟩ : ∃ y, y = xs.getD i 0 := ⟨_, rfl⟩
      obtain ⟨y2, hy2⟩ : ∃ y, y = xs.getD j 0 := ⟨_, rfl⟩
      rw [← hy1] at c1 hle
      rw [← hy2] at c2 hle
      have HLE := hid hle
      have hin : (i : Int) < (n : Int) := hu2
      have hjn : (j : Int) < (n : Int) := by omega
      have HJ := hid hj
      clear hy1 hy2 hle hj hil
      go_upto_region 4 with (fail)
      go_quiet (first | (go_at_call 32; exact Calls.quiet_of_same (less_no y1 y2 HLE.out _)))
      go_wp2_with fail
      go_roundg j
      case measure => have := Hd.out; have := HJ.out; omega
      case rel => exact ⟨(j : Int), by rfl, by omega, by omega, hid (Int.le_refl _), hid (HU.out.drewN _)⟩
    · have hu' : ¬ 0 < u := hu
      go_wp2_with fail
      go_ret
      exact ⟨rfl, HU.out⟩
end Go.Proofs.Ytgocminfohbedaa.Cy
