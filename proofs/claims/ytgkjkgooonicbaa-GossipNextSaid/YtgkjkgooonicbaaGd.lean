/- Gossip: slices.BinarySearchFunc at rows. -/
import Derived.Test.YtgkjkgooonicbaaGc
import Derived.Deep.Cut
import Derived.Deep.CutRange
import Derived.BigQuiet
import Derived.Deep.QuietTactic
namespace Go.Proofs.Ytgkjkgooonicbaa.Gs
open Go Go.RowKit Go.Proofs.Ytgkjkgooonicbaa Go.Proofs.Ytgkjkgooonicbaa.K Go.Proofs.Ytgkjkgooonicbaa.M Go.Proofs.Ytgkjkgooonicbaa.O

theorem RowAt.new {w w' : World} {a : Option Addr} {l : List Row} (h : RowAt w a l) (u : Upd [] w w') : RowAt w' a l := fun i hi => by
  obtain ⟨g, o, e, c0, c1, c2⟩ := h i hi
  exact ⟨g, o, e, u.cell c0 (by simp), u.cell c1 (by simp), u.cell c2 (by simp)⟩
theorem sorted_le {l : List Row} (h : Sorted l) {i j : Nat} (hij : i ≤ j) (hj : j < l.length) : (l.getD i noRow).node ≤ (l.getD j noRow).node := by
  by_cases e : i = j
  · subst e; exact Nat.le_refl _
  · exact Nat.le_of_lt (h i j (by omega) hj)

set_option maxHeartbeats 2000000 in
set_option maxRecDepth 100000 in
theorem search_any (a : Option Addr) (n c : Nat) (l : List Row) (t : Nat) (w : World) (hl : n = l.length) (hs : Sorted l) (hr : RowAt w a l) (hn : n ≤ 1000) (hnc : n ≤ c) :
    Calls Try.prog 50 #[.slice a n c, .int .i64 (t : Int), .func (.func 51) #[] #[]] w fun e w' => e = .returned (.tuple #[.int .i64 (posOf l t : Int), .bool (hasRow l t)]) ∧ Upd [] w w' := by
  have HL := hid hl
  have HS := hid hs
  have HR := hid hr
  clear hl hs hr
  go_enter Try.func50, Try.ntmps50
  go_wp2_with fail
  go_loopg [9, 10] (n + 1) (fun d v9 v10 wr => ∃ (i j : Nat), v9 = .int .i64 (i : Int) ∧ v10 = .int .i64 (j : Int) ∧ i ≤ j ∧ j ≤ n ∧ Hid (j - i ≤ d) ∧ Hid (∀ k, k < i → (l.getD k noRow).node < t) ∧ Hid (∀ k, j ≤ k → k < n → t ≤ (l.getD k noRow).node) ∧ Hid (Upd [] w wr))
  case atStart => exact ⟨0, n, rfl, rfl, by omega, by omega, hid (by omega), hid (fun k hk => by omega), hid (fun k hk hk2 => by omega), hid (Upd.refl _ _)⟩
  case round =>
    obtain ⟨i, j, rfl, rfl, hij, hj, Hd, H1, H2, HU⟩ := hrel
    by_cases hlt : i < j
    · have hlt' : (i : Int) < (j : Int) := by omega
      obtain ⟨g, o, rfl, c0, c1, c2⟩ := HR.out ((i + j) / 2) (by rw [← HL.out]; omega)
      replace c0 := HU.out.cell c0 (by simp)
      replace c1 := HU.out.cell c1 (by simp)
      replace c2 := HU.out.cell c2 (by simp)
      obtain ⟨nd, hnd⟩ : ∃ x, x = (l.getD ((i + j) / 2) noRow).node := ⟨_, rfl⟩
      obtain ⟨tu, htu⟩ : ∃ x, x = (l.getD ((i + j) / 2) noRow).turn := ⟨_, rfl⟩
      obtain ⟨sa, hsa⟩ : ∃ x, x = (l.getD ((i + j) / 2) noRow).says := ⟨_, rfl⟩
      rw [← hnd] at c0
      rw [← htu] at c1
      rw [← hsa] at c2
      have HND := hid hnd
      have hmn : (i + j) / 2 < n := by omega
      have HJN := hid (show (i + j) / 2 < j ∧ i ≤ (i + j) / 2 from ⟨by omega, by omega⟩)
      clear hnd htu hsa
      go_wp2_with fail
      refine (find1_any nd tu sa t wr).mono ?_
      rintro e w2 ⟨rfl, hu⟩
      have HU2 := hid (HU.out.trans hu (fun t ht => by cases ht))
      clear hu c0 c1 c2
      by_cases hlt2 : nd < t
      · have e1 : cmpN nd t = -1 := by unfold cmpN; rw [if_pos hlt2]
        rw [e1]
        have HLT := hid hlt2
        clear e1 hlt2
        go_wp2_with fail
        go_roundg (j - ((i + j) / 2 + 1))
        case measure => have := Hd.out; have := HJN.out; omega
        case rel => exact ⟨(i + j) / 2 + 1, j, by rw [show ((i : Int) + (j : Int)) / 2 + 1 = (((i + j) / 2 + 1 : Nat) : Int) by omega], rfl, by omega, hj, hid (Nat.le_refl _), hid (fun k hk => by
            have h1 := sorted_le HS.out (show k ≤ (i + j) / 2 by omega) (by rw [← HL.out]; exact hmn)
            have h2 := HND.out
            have h3 := HLT.out
            omega), H2, HU2⟩
      · have e1 : ¬ cmpN nd t < 0 := by unfold cmpN; rw [if_neg hlt2]; split <;> omega
        have HLT := hid hlt2
        obtain ⟨q, hq⟩ : ∃ q, q = cmpN nd t := ⟨_, rfl⟩
        rw [← hq] at e1 ⊢
        clear hlt2 hq
        go_wp2_with fail
        go_roundg ((i + j) / 2 - i)
        case measure => have := Hd.out; have := HJN.out; omega
        case rel => exact ⟨i, (i + j) / 2, rfl, by rw [show ((i : Int) + (j : Int)) / 2 = (((i + j) / 2 : Nat) : Int) by omega], by omega, by omega, hid (Nat.le_refl _), H1, hid (fun k hk hk2 => by
            have h1 := sorted_le HS.out hk (by rw [← HL.out]; exact hk2)
            have h2 := HND.out
            have h3 := HLT.out
            omega), HU2⟩
    · obtain rfl : i = j := by omega
      have hpos : posOf l t = i := posOf_eq l t i (by rw [← HL.out]; exact hj) H1.out (fun h => H2.out i (Nat.le_refl _) (by rw [HL.out]; exact h))
      by_cases hin : i < n
      · obtain ⟨g, o, rfl, c0, c1, c2⟩ := HR.out i (by rw [← HL.out]; exact hin)
        replace c0 := HU.out.cell c0 (by simp)
        replace c1 := HU.out.cell c1 (by simp)
        replace c2 := HU.out.cell c2 (by simp)
        obtain ⟨nd, hnd⟩ : ∃ x, x = (l.getD i noRow).node := ⟨_, rfl⟩
        obtain ⟨tu, htu⟩ : ∃ x, x = (l.getD i noRow).turn := ⟨_, rfl⟩
        obtain ⟨sa, hsa⟩ : ∃ x, x = (l.getD i noRow).says := ⟨_, rfl⟩
        rw [← hnd] at c0
        rw [← htu] at c1
        rw [← hsa] at c2
        have hin' : (i : Int) < (n : Int) := by omega
        have HF : Hid (hasRow l t = decide (cmpN nd t = 0)) := hid (by
          unfold hasRow cmpN
          rw [hpos, ← hnd]
          have h1 : i < l.length := by rw [← HL.out]; exact hin
          by_cases e1 : nd < t
          · rw [if_pos e1]; simp; omega
          · rw [if_neg e1]
            by_cases e2 : t < nd
            · rw [if_pos e2]; simp; omega
            · rw [if_neg e2]; simp [h1]; omega)
        have HP := hid hpos
        obtain ⟨q, hq⟩ : ∃ q, q = cmpN nd t := ⟨_, rfl⟩
        have HQ := hid hq
        clear hnd htu hsa hpos hq
        go_wp2_with fail
        refine (find1_any nd tu sa t wr).mono ?_
        rintro e w2 ⟨rfl, hu⟩
        have HU2 := hid (HU.out.trans hu (fun t ht => by cases ht))
        rw [← HQ.out]
        clear hu c0 c1 c2
        go_wp2_with fail
        go_ret2
        refine ⟨?_, HU2.out⟩
        rw [HP.out, HF.out, ← HQ.out]
        by_cases z : q = 0
        · subst z; rfl
        · simp [z]
      · obtain rfl : i = n := by omega
        have HF : Hid (hasRow l t = false) := hid (by unfold hasRow; rw [hpos, ← HL.out]; simp)
        have HP := hid hpos
        clear hpos
        go_wp2_with fail
        go_ret2
        refine ⟨?_, HU.out⟩
        rw [HP.out, HF.out]
        rfl
end Go.Proofs.Ytgkjkgooonicbaa.Gs
