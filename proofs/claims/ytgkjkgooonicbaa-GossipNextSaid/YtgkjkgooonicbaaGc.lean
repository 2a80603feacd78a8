/- Gossip: cmp.Compare; rows in memory; the search for a row. -/
import Derived.Test.YtgkjkgooonicbaaProg
import Derived.Test.YtgkjkgooonicbaaO
import Derived.Test.YtgkjkgooonicbaaR
import Derived.Test.YtgkjkgooonicbaaJ
namespace Go.Proofs.Ytgkjkgooonicbaa.Gs
open Go Go.RowKit Go.Proofs.Ytgkjkgooonicbaa Go.Proofs.Ytgkjkgooonicbaa.K Go.Proofs.Ytgkjkgooonicbaa.M Go.Proofs.Ytgkjkgooonicbaa.O

def cmpN (a b : Nat) : Int := if a < b then -1 else if b < a then 1 else 0
set_option maxHeartbeats 1000000 in
set_option maxRecDepth 100000 in
theorem isNaN_any (a : Int) (w : World) : Calls Try.prog 55 #[.int .i64 a] w fun e w' => e = .returned (.bool false) ∧ w' = w := by
  go_enter Try.func55, Try.ntmps55
  go_wp2_with fail
  go_ret
  exact ⟨by simp, rfl⟩
set_option maxHeartbeats 1000000 in
set_option maxRecDepth 100000 in
theorem compare_any (a b : Nat) (w : World) : Calls Try.prog 52 #[.int .i64 (a : Int), .int .i64 (b : Int)] w fun e w' => e = .returned (.int .i64 (cmpN a b)) ∧ w' = w := by
  unfold cmpN
  by_cases h1 : a < b
  · rw [if_pos h1]
    have h1' : (a : Int) < (b : Int) := by omega
    clear h1
    go_enter Try.func52, Try.ntmps52
    go_wp2_with fail
    refine (isNaN_any _ _).mono ?_
    rintro e w' ⟨rfl, rfl⟩
    go_wp2_with fail
    refine (isNaN_any _ _).mono ?_
    rintro e w' ⟨rfl, rfl⟩
    go_wp2_with fail
    go_ret
    exact ⟨rfl, rfl⟩
  · rw [if_neg h1]
    by_cases h2 : b < a
    · rw [if_pos h2]
      have h2' : (b : Int) < (a : Int) := by omega
      have h1' : ¬ (a : Int) < (b : Int) := by omega
      clear h1 h2
      go_enter Try.func52, Try.ntmps52
      go_wp2_with fail
      refine (isNaN_any _ _).mono ?_
      rintro e w' ⟨rfl, rfl⟩
      go_wp2_with fail
      refine (isNaN_any _ _).mono ?_
      rintro e w' ⟨rfl, rfl⟩
      go_wp2_with fail
      go_ret
      exact ⟨rfl, rfl⟩
    · obtain rfl : a = b := by omega
      rw [if_neg h2]
      clear h1 h2
      go_enter Try.func52, Try.ntmps52
      go_wp2_with fail
      refine (isNaN_any _ _).mono ?_
      rintro e w' ⟨rfl, rfl⟩
      go_wp2_with fail
      refine (isNaN_any _ _).mono ?_
      rintro e w' ⟨rfl, rfl⟩
      go_wp2_with fail
      go_ret
      exact ⟨rfl, rfl⟩

structure Row where
  node : Nat
  turn : Nat
  says : Nat
def noRow : Row := ⟨0, 0, 0⟩
def rowVals (r : Row) : List Value := [.int .i64 (r.node : Int), .int .i64 (r.turn : Int), .int .i64 (r.says : Int)]
def rowCells (l : List Row) : List Value := l.flatMap rowVals
theorem rowCells_len : ∀ l : List Row, (rowCells l).length = l.length * 3
  | [] => rfl
  | x :: l => by have := rowCells_len l; simp only [rowCells, List.flatMap_cons, List.length_append, List.length_cons] at this ⊢; simp only [rowVals, List.length_cons, List.length_nil]; omega
theorem rowCells_app (l m : List Row) : rowCells (l ++ m) = rowCells l ++ rowCells m := by simp [rowCells]
theorem rowCells_one (l : List Row) : ∀ u ∈ rowCells l, u.oneCell' = true := fun u hu => by
  obtain ⟨x, _, hm⟩ := List.mem_flatMap.1 hu
  simp [rowVals] at hm
  rcases hm with rfl | rfl | rfl <;> rfl
theorem rowCells_get : ∀ (l : List Row) (i : Nat), i < l.length →
    (rowCells l)[i * 3]? = some (.int .i64 ((l.getD i noRow).node : Int)) ∧ (rowCells l)[i * 3 + 1]? = some (.int .i64 ((l.getD i noRow).turn : Int)) ∧ (rowCells l)[i * 3 + 2]? = some (.int .i64 ((l.getD i noRow).says : Int))
  | [], i, h => by simp at h
  | x :: l, 0, _ => by simp [rowCells, rowVals]
  | x :: l, i + 1, h => by
    have ih := rowCells_get l i (by simpa using h)
    simp only [rowCells, rowVals, List.flatMap_cons, List.getD_cons_succ] at ih ⊢
    refine ⟨?_, ?_, ?_⟩
    · rw [List.getElem?_append_right (by simp; omega)]; simpa [show (i + 1) * 3 - 3 = i * 3 by omega] using ih.1
    · rw [List.getElem?_append_right (by simp; omega)]; simpa [show (i + 1) * 3 + 1 - 3 = i * 3 + 1 by omega] using ih.2.1
    · rw [List.getElem?_append_right (by simp; omega)]; simpa [show (i + 1) * 3 + 2 - 3 = i * 3 + 2 by omega] using ih.2.2
/-- How many rows stand ahead of node t. -/
def posOf (l : List Row) (t : Nat) : Nat := (l.takeWhile (fun r => decide (r.node < t))).length
def hasRow (l : List Row) (t : Nat) : Bool := decide (posOf l t < l.length ∧ (l.getD (posOf l t) noRow).node = t)
theorem posOf_eq : ∀ (l : List Row) (t i : Nat), i ≤ l.length → (∀ k, k < i → (l.getD k noRow).node < t) → (i < l.length → t ≤ (l.getD i noRow).node) → posOf l t = i
  | [], t, i, h, _, _ => by simp at h; subst h; rfl
  | x :: l, t, 0, _, _, h2 => by
    have := h2 (by simp)
    simp at this
    simp [posOf, Nat.not_lt.2 this]
  | x :: l, t, i + 1, h, h1, h2 => by
    have e := h1 0 (by omega)
    simp at e
    have ih := posOf_eq l t i (by simpa using h) (fun k hk => by have := h1 (k + 1) (by omega); simpa using this) (fun hi => by have := h2 (by simpa using hi); simpa using this)
    simp only [posOf, List.takeWhile_cons, e, decide_true, if_true, List.length_cons]
    simp only [posOf] at ih
    omega
/-- Rows in order of their nodes. -/
def Sorted (l : List Row) : Prop := ∀ i j, i < j → j < l.length → (l.getD i noRow).node < (l.getD j noRow).node

/-- A row's cells in memory. -/
def RowAt (w : World) (a : Option Addr) (l : List Row) : Prop := ∀ i, i < l.length → ∃ g o, a = some ⟨g, o, none⟩ ∧ w.cell? ⟨g, o + i * 3, none⟩ = some (.int .i64 ((l.getD i noRow).node : Int)) ∧ w.cell? ⟨g, o + i * 3 + 1, none⟩ = some (.int .i64 ((l.getD i noRow).turn : Int)) ∧ w.cell? ⟨g, o + i * 3 + 2, none⟩ = some (.int .i64 ((l.getD i noRow).says : Int))

set_option maxHeartbeats 1000000 in
set_option maxRecDepth 100000 in
theorem find1_any (n t s tg : Nat) (w : World) : Calls Try.prog 51 #[.agg #[.int .i64 (n : Int), .int .i64 (t : Int), .int .i64 (s : Int)], .int .i64 (tg : Int)] w fun e w' => e = .returned (.int .i64 (cmpN n tg)) ∧ Upd [] w w' := by
  go_enter Try.func51, Try.ntmps51
  go_wp2_with fail
  refine (compare_any n tg _).mono ?_
  rintro e w' ⟨rfl, rfl⟩
  go_wp2_with fail
  go_ret
  exact ⟨rfl, (Upd.refl _ _).alloc _⟩
end Go.Proofs.Ytgkjkgooonicbaa.Gs
