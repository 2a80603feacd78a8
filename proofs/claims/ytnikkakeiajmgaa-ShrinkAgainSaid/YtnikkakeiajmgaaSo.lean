/- slices.Sort at rows of numbers that a call itself made, nil and empty ones too. -/
import Derived.Test.YtnikkakeiajmgaaShelf
import Derived.Test.YtnikkakeiajmgaaO
import Derived.Shelf.Slices.In.SortNone
namespace Go.Proofs.Ytnikkakeiajmgaa.So
open Go Go.RowKit Go.Sort Go.Proofs.Ytnikkakeiajmgaa.K Go.Proofs.Ytnikkakeiajmgaa.O

def ints (xs : List Int) : List Value := xs.map (fun n => .int .i64 n)
theorem ints_length (xs : List Int) : (ints xs).length = xs.length := by simp [ints]
theorem ints_get (xs : List Int) (i : Nat) (h : i < xs.length) : (ints xs)[i]? = some (.int .i64 (xs.getD i 0)) := by simp [ints, List.getD_eq_getElem?_getD, h]
theorem ints_one (xs : List Int) : ∀ u ∈ ints xs, u.oneCell' = true := fun u hu => by
  obtain ⟨x, _, rfl⟩ := List.mem_map.1 hu; rfl
theorem ints_snoc (xs : List Int) (x : Int) : ints (xs ++ [x]) = ints xs ++ [.int .i64 x] := by simp [ints]
def sortL (xs : List Int) : List Int := xs.mergeSort fun x y => decide (x ≤ y)
theorem sortL_perm (xs : List Int) : (sortL xs).Perm xs := List.mergeSort_perm _ _
theorem sortL_length (xs : List Int) : (sortL xs).length = xs.length := by simp [sortL, List.length_mergeSort]

theorem heap_putRow (w : World) (g : Nat) (d : Array Int) (k : Nat) (os : Array Obj) (n : Nat) (hk : k < w.heap.size) :
    (Sort.grow (Sort.putRow (Value.int .i64) (Sort.ahead w n) g 0 d) os).heap[k]? = if k = g then (w.heap[g]?).map (Sort.onCells (Sort.putCells (Value.int .i64) 0 d)) else w.heap[k]? := by
  unfold Sort.grow Sort.putRow Sort.mapBlock Sort.ahead
  simp only
  rw [Array.getElem?_append_left (by simpa using hk), Array.getElem?_modify]
  by_cases e : g = k
  · subst e; simp
  · simp [e, Ne.symm e]

theorem sort_own {B n : Nat} {v : Value} {xs : List Int} {w : World} (h : w.ownsRow B 3 1 v n (ints xs)) (hn : n ≤ 4611686018427387903) :
    Calls Try.prog 31 #[v] w fun e w' => e = .returned (.tuple #[]) ∧ w'.ownsRow B 3 1 v n (ints (sortL xs)) ∧ Upd v.ownBlock.toList w w' := by
  have hl : xs.length = n := by have := h.1; rw [ints_length] at this; omega
  by_cases h0 : n = 0
  · subst h0
    have hx : xs = [] := List.eq_nil_of_length_eq_zero hl
    subst hx
    have hv : ∃ p cap, v = .slice p 0 cap := by
      rcases h.2 with ⟨rfl, _⟩ | ⟨g, cap, cur, rfl, _⟩
      · exact ⟨none, 0, rfl⟩
      · exact ⟨_, cap, rfl⟩
    obtain ⟨p, cap, rfl⟩ := hv
    refine (Any.slices_Sort_int_none Try.lays189 p cap w).mono ?_
    rintro e w' ⟨rfl, rfl⟩
    exact ⟨rfl, by rw [show sortL [] = [] by simp [sortL]]; exact h, Upd.refl _ _⟩
  · rcases h.2 with ⟨rfl, hx⟩ | ⟨g, cap, cur, rfl, hb, hg, h1, h2, h3, h4⟩
    · exact absurd hx h0
    · have hgl := K.blk_lt hg
      have hcs : n ≤ cur.size := by
        have := congrArg List.length h4; rw [ints_length, List.length_take] at this; simp at this; omega
      have hcell : ∀ j, j < n → w.cell? ⟨g, j, none⟩ = some (.int .i64 (xs.getD j 0)) := fun j hj => by
        rw [K.blk_cell hg, ← Array.getElem?_toList]
        have e2 : (cur.toList.take (n * 1))[j]? = (ints xs)[j]? := by rw [h4]
        rw [List.getElem?_take, if_pos (by omega)] at e2
        rw [e2, ints_get _ _ (by omega)]
      have hH : Sort.Holds (Value.int .i64) w g 0 xs.toArray := fun j hj => by
        have hj' : j < xs.length := by simpa using hj
        rw [Nat.zero_add]
        refine ⟨?_, K.blk_frozen hg j⟩
        rw [hcell j (by omega)]
        simp [getElem!_pos, hj', List.getD_eq_getElem?_getD]
      rw [← hl]
      refine (Try.slices_Sort_int g 0 cap xs w hH hgl (by omega)).mono ?_
      rintro e w' ⟨rfl, q, os, rfl⟩
      have hsl := sortL_length xs
      have hblk := heap_putRow w g (sortL xs).toArray g os q hgl
      rw [if_pos rfl, hg] at hblk
      refine ⟨rfl, ⟨by rw [ints_length, hsl]; omega, .inr ⟨g, cap, Sort.putCells (Value.int .i64) 0 (sortL xs).toArray cur, rfl, hb, hblk, by omega, h2, by simpa [Sort.putCells] using h3, ?_⟩⟩, ⟨rfl, rfl, rfl, ?_, fun k hk hs => ?_⟩⟩
      · apply List.ext_getElem?
        intro z
        by_cases hz : z < xs.length
        · rw [List.getElem?_take, if_pos (by omega), ints_get _ _ (by omega), Array.getElem?_toList]
          have hzc : z < cur.size := by omega
          simp only [Sort.putCells, Array.getElem?_mapIdx, Array.getElem?_eq_getElem hzc, Option.map_some, Nat.zero_add]
          rw [if_pos ⟨Nat.zero_le _, by simp [hsl]; omega⟩]
          simp [getElem!_pos, List.getD_eq_getElem?_getD, show z < (sortL xs).length by omega]
        · rw [List.getElem?_take, if_neg (by omega), List.getElem?_eq_none (by rw [ints_length, hsl]; omega)]
      · unfold Sort.grow Sort.putRow Sort.mapBlock Sort.ahead
        simp
      · have hkg : k ≠ g := by intro e; apply hs; simp [Value.ownBlock, e]
        have := heap_putRow w g (sortL xs).toArray k os q hk
        rw [if_neg hkg] at this
        exact this
end Go.Proofs.Ytnikkakeiajmgaa.So
