/- Slices of slices of whole numbers that came in: what a walk is told of them, and how a row's argument gives it. -/
import Derived.Test.YtmdhhembkmkfdaaK
import Derived.Deep.Matrix
namespace Go.Proofs.Ytmdhhembkmkfdaa.K
open Go Go.RowKit

/-- The slice's cells hold slices of these numbers. -/
def RowRow (w : World) (a : Option Addr) (xss : List (List Int)) : Prop := ∀ i, i < xss.length → ∃ x a' c', a = some x ∧ w.cell? (x.add i) = some (.slice a' (xss.getD i []).length c') ∧ IntRow w a' (xss.getD i []) ∧ (xss.getD i []).length ≤ c' ∧ c' ≤ 9223372036854775807
theorem RowRow.upd {w w' : World} {a : Option Addr} {xss : List (List Int)} (h : RowRow w a xss) (u : Upd [] w w') : RowRow w' a xss := fun i hi =>
  let ⟨x, a', c', e, hc, hr, h1, h2⟩ := h i hi; ⟨x, a', c', e, u.cell hc (by simp), hr.upd u, h1, h2⟩

/-- What is told of a slice of slices of integers that came in. -/
def IsRows (w : World) (a : Option Addr) (len cap : Nat) : Prop :=
  (a = none ∧ len = 0 ∧ cap = 0) ∨
  ∃ (x : Addr) (A : Nat → Option Addr) (L C : Nat → Nat) (Z : Nat → List Int), a = some x ∧ len ≤ cap ∧ cap ≤ maxLen ∧
    ∀ r, r < cap → w.cell? (x.add r) = some (.slice (A r) (L r) (C r)) ∧ L r ≤ C r ∧ C r ≤ maxLen ∧ (Z r).length = C r ∧ (A r = none → C r = 0) ∧
      ∀ a', A r = some a' → ∀ c, c < C r → w.cell? (a'.add c) = some (.int .i64 ((Z r).getD c 0))

theorem IsRows.rows {w : World} {a : Option Addr} {len cap : Nat} (h : IsRows w a len cap) : ∃ xss : List (List Int), RowRow w a xss ∧ xss.length = len ∧ len ≤ cap ∧ cap ≤ 9223372036854775807 := by
  rcases h with ⟨rfl, rfl, rfl⟩ | ⟨x, A, L, C, Z, rfl, h1, h2, h⟩
  · exact ⟨[], fun i hi => by simp at hi, rfl, Nat.le_refl _, by omega⟩
  · unfold maxLen at h2
    refine ⟨(List.range len).map fun r => (Z r).take (L r), fun i hi => ?_, by simp, h1, h2⟩
    have hi' : i < len := by simpa using hi
    obtain ⟨k1, k2, k3, k4, k5, k6⟩ := h i (by omega)
    have e : ((List.range len).map fun r => (Z r).take (L r)).getD i [] = (Z i).take (L i) := by
      rw [List.getD_eq_getElem?_getD, List.getElem?_map, List.getElem?_range hi']; rfl
    have el : ((Z i).take (L i)).length = L i := by rw [List.length_take, k4]; omega
    unfold maxLen at k3
    rw [e]
    refine ⟨x, A i, C i, rfl, by rw [el]; exact k1, fun j hj => ?_, by rw [el]; exact k2, k3⟩
    rw [el] at hj
    cases ha : A i with
    | none => have := k5 ha; omega
    | some a' =>
      refine ⟨a', rfl, ?_⟩
      rw [k6 a' ha j (by omega)]
      simp [List.getD_eq_getElem?_getD, List.getElem?_take, hj]
end Go.Proofs.Ytmdhhembkmkfdaa.K
