/- cycleBegun; what is so of the garbage (theory). -/
import Derived.Test.YtgocminfohbedaaCe
namespace Go.Proofs.Ytgocminfohbedaa.Cy
open Go Go.RowKit Go.Proofs.Ytgocminfohbedaa Go.Proofs.Ytgocminfohbedaa.K Go.Proofs.Ytgocminfohbedaa.M Go.Proofs.Ytgocminfohbedaa.O Go.Proofs.Ytgocminfohbedaa.So Go.Proofs.Ytgocminfohbedaa.R

theorem mem_flat {P : List (List Int)} {x : Int} : x ∈ P.flatten ↔ ∃ i, i < P.length ∧ x ∈ P.getD i [] := by
  constructor
  · intro h
    obtain ⟨p, hp, hx⟩ := List.mem_flatten.1 h
    obtain ⟨i, hi, e⟩ := List.mem_iff_getElem.1 hp
    refine ⟨i, hi, ?_⟩
    rw [List.getD_eq_getElem?_getD, List.getElem?_eq_getElem hi]
    show x ∈ P[i]
    rw [e]; exact hx
  · rintro ⟨i, hi, hx⟩
    rw [List.getD_eq_getElem?_getD, List.getElem?_eq_getElem hi] at hx
    exact List.mem_flatten.2 ⟨_, List.getElem_mem hi, hx⟩
/-- Who is found alive lies in whatever holds the roots and is closed. -/
theorem Spec.least {l : List Know} {P : List (List Int)} (h : Spec l P) {C : Int → Prop} (hr : ∀ k ∈ l, k.up = true → C k.ref) (hc : ∀ k ∈ l, C k.ref → ∀ x ∈ k.refs, x ∈ refsOf l → C x) : ∀ x ∈ P.flatten, C x := by
  have key : ∀ i, i < P.length → ∀ x ∈ P.getD i [], C x := fun i => by
    induction i with
    | zero =>
      intro hi x hx
      obtain ⟨k, hk, e⟩ := List.mem_map.1 (h.mem x (mem_flat.2 ⟨0, hi, hx⟩))
      subst e
      exact hr k hk ((h.root k hk).1 hx)
    | succ i ih =>
      intro hi x hx
      obtain ⟨k, hk, k1, k2⟩ := h.level i hi x hx
      exact hc k hk (ih (by omega) _ k1) x k2 (h.mem x (mem_flat.2 ⟨i + 1, hi, hx⟩))
  intro x hx
  obtain ⟨i, hi, hx⟩ := mem_flat.1 hx
  exact key i hi x hx
/-- Roots are found alive. -/
theorem Spec.up {l : List Know} {P : List (List Int)} (h : Spec l P) {k : Know} (hk : k ∈ l) (hu : k.up = true) : k.ref ∈ P.flatten := by
  have := (h.root k hk).2 hu
  cases P with
  | nil => simp at this
  | cons p P => exact List.mem_flatten.2 ⟨p, by simp, by simpa using this⟩
theorem mem_dead {l : List Know} {A : List Int} {x : Int} : x ∈ dead l A ↔ x ∈ refsOf l ∧ x ∉ A := by simp [dead]
theorem mem_sort {xs : List Int} {x : Int} : x ∈ sortL xs ↔ x ∈ xs := (sortL_perm xs).mem_iff
def begunL : List Know := [⟨4, false, false, [5]⟩, ⟨5, false, false, [4]⟩, ⟨6, true, false, []⟩]
theorem begun_dead {P : List (List Int)} (h : Spec begunL P) : sortL (dead begunL P.flatten) = [4, 5] := by
  have h6 : (6 : Int) ∈ P.flatten := h.up (k := ⟨6, true, false, []⟩) (by simp [begunL]) rfl
  have hl : ∀ x ∈ P.flatten, x = 6 := h.least (C := fun x => x = 6) (fun k hk hu => by
    simp [begunL] at hk
    rcases hk with rfl | rfl | rfl
    · cases hu
    · cases hu
    · rfl) (fun k hk he x hx _ => by
    simp [begunL] at hk
    rcases hk with rfl | rfl | rfl
    · cases he
    · cases he
    · simp at hx)
  have h4 : (4 : Int) ∉ P.flatten := fun q => by have := hl 4 q; omega
  have h5 : (5 : Int) ∉ P.flatten := fun q => by have := hl 5 q; omega
  obtain ⟨A, hA⟩ : ∃ A, A = P.flatten := ⟨_, rfl⟩
  rw [← hA] at h4 h5 h6 ⊢
  have e : dead begunL A = [4, 5] := by
    simp [dead, refsOf, begunL, h4, h5, h6]
  rw [e]
  unfold sortL
  first | exact List.mergeSort_of_pairwise (by simp) | exact List.mergeSort_of_sorted (by simp) | simp [List.mergeSort]

set_option maxHeartbeats 8000000 in
set_option maxRecDepth 100000 in
theorem begun_true (w : World) : Calls Try.prog 8 #[] w fun e w' => e = .returned (.bool true) ∧ Upd [] w w' := by
  obtain ⟨A, hA⟩ : ∃ A, A = w.heap.size := ⟨_, rfl⟩
  go_enter Try.func8, Try.ntmps8
  go_wp2_with fail
  rw [← hA]
  obtain ⟨w3, hw3⟩ : ∃ w3, w3 = ((w.alloc (.cells #[.int .i64 5] 3)).alloc (.cells #[.int .i64 4] 3)).alloc (.cells #[.int .i64 4, .bool false, .bool false, .slice (some ⟨A, 0, none⟩) 1 1, .int .i64 5, .bool false, .bool false, .slice (some ⟨A + 1, 0, none⟩) 1 1, .int .i64 6, .bool true, .bool false, .slice none 0 0] 31) := ⟨_, rfl⟩
  have s1 : (w.alloc (.cells #[.int .i64 5] 3)).heap.size = A + 1 := by rw [hA]; show (w.heap.push _).size = _; simp
  have s2 : ((w.alloc (.cells #[.int .i64 5] 3)).alloc (.cells #[.int .i64 4] 3)).heap.size = A + 1 + 1 := by show ((w.alloc (.cells #[.int .i64 5] 3)).heap.push _).size = _; simp [s1]
  have ba : w3.heap[A]? = some (.cells #[.int .i64 5] 3 (0, 0)) := by rw [hw3, hA]; exact K.blk_alloc (K.blk_alloc (K.blk_new w _) _) _
  have bb : w3.heap[A + 1]? = some (.cells #[.int .i64 4] 3 (0, 0)) := by rw [hw3]; exact K.blk_alloc (by rw [← s1]; exact K.blk_new _ _) _
  have bc : w3.heap[A + 1 + 1]? = some (.cells #[.int .i64 4, .bool false, .bool false, .slice (some ⟨A, 0, none⟩) 1 1, .int .i64 5, .bool false, .bool false, .slice (some ⟨A + 1, 0, none⟩) 1 1, .int .i64 6, .bool true, .bool false, .slice none 0 0] 31 (0, 0)) := by rw [hw3, ← s2]; exact K.blk_new _ _
  have UU := hid (show Upd [] w w3 by rw [hw3]; exact (((Upd.refl [] w).alloc _).alloc _).alloc _)
  have one : ∀ (r : Nat) (x : Int), w3.heap[r]? = some (.cells #[.int .i64 x] 3 (0, 0)) → IntRow w3 (some ⟨r, 0, none⟩) [x] := fun r x hb i hi => by
    have : i = 0 := by simp at hi; omega
    subst this
    exact ⟨_, rfl, by rw [addz]; exact K.blk_cell hb 0⟩
  have KA : KnowAt w3 (some ⟨A + 1 + 1, 0, none⟩) begunL := fun i hi => by
    have hi : i < 3 := hi
    have : i = 0 ∨ i = 1 ∨ i = 2 := by omega
    rcases this with rfl | rfl | rfl
    · exact ⟨_, _, _, _, rfl, K.blk_cell bc _, K.blk_cell bc _, K.blk_cell bc _, K.blk_cell bc _, one A 5 ba, by simp [begunL]⟩
    · exact ⟨_, _, _, _, rfl, K.blk_cell bc _, K.blk_cell bc _, K.blk_cell bc _, K.blk_cell bc _, one (A + 1) 4 bb, by simp [begunL]⟩
    · exact ⟨_, _, _, _, rfl, K.blk_cell bc _, K.blk_cell bc _, K.blk_cell bc _, K.blk_cell bc _, fun i hi => by simp [begunL] at hi, by simp [begunL]⟩
  have GA := hid (garbage_any (some ⟨A + 1 + 1, 0, none⟩) begunL 3 3 rfl (by decide) (by decide) KA)
  rw [← hw3]
  clear hw3 hA s1 s2 ba bb bc one KA
  refine GA.out.mono ?_
  rintro e w4 ⟨v, rfl, ⟨P, sp, ho⟩, hu⟩
  rw [begun_dead sp] at ho
  obtain ⟨r, kr, cur, ev, hb, hr, -⟩ := own_row ho (by simp)
  subst ev
  have HR := hid hr
  have U4 := hid (UU.out.trans hu (fun x hx => by cases hx))
  clear ho sp hu hb hr GA
  go_wp2_with fail
  have bl := hid (K.blk_new w4 (.cells #[.int .i64 4, .int .i64 5] 3))
  have EQ := Try.slices_Equal_int r 0 2 kr w4.heap.size 0 2 2 [4, 5] [4, 5] (w4.alloc (.cells #[.int .i64 4, .int .i64 5] 3)) (by decide) (by decide) (by decide) (by decide) (fun j hj => by
    obtain ⟨x, e, c⟩ := HR.out.upd ((Upd.refl [] w4).alloc (.cells #[.int .i64 4, .int .i64 5] 3)) j hj
    cases e
    rw [addz] at c
    rw [Nat.zero_add]
    exact c) (fun j hj => by
    have hj : j < 2 := hj
    have : j = 0 ∨ j = 1 := by omega
    rcases this with rfl | rfl
    · exact K.blk_cell bl.out _
    · exact K.blk_cell bl.out _)
  refine EQ.mono ?_
  rintro e w5 ⟨rfl, q, rfl⟩
  go_wp2_with fail
  go_ret
  exact ⟨by simp, (U4.out.alloc _).drewN q⟩
end Go.Proofs.Ytgocminfohbedaa.Cy
