/- What ShrinkAgain says of lists of numbers: no program. slices.Compact and slices.Equal at rows of one's own. -/
import Derived.Test.YtnikkakeiajmgaaSc
namespace Go.Proofs.Ytnikkakeiajmgaa.Sh
open Go Go.RowKit Go.Proofs.Ytnikkakeiajmgaa Go.Proofs.Ytnikkakeiajmgaa.K Go.Proofs.Ytnikkakeiajmgaa.M Go.Proofs.Ytnikkakeiajmgaa.O Go.Proofs.Ytnikkakeiajmgaa.R Go.Proofs.Ytnikkakeiajmgaa.So Go.Proofs.Ytnikkakeiajmgaa.Pa

theorem least_mem {need xs : List Int} (h : pAll need xs = true) (hl : Least (pAll need) xs) (i : Nat) (hi : i < xs.length) : xs[i] ∈ need ∧ xs[i] ∉ xs.eraseIdx i := by
  have h1 := hl i hi
  have h2 : ∃ m ∈ need, m ∉ xs.eraseIdx i := by
    have : ¬ (∀ m ∈ need, m ∈ xs.eraseIdx i) := fun c => by rw [pAll_iff.2 c] at h1; cases h1
    simpa using this
  obtain ⟨m, hm, hn⟩ := h2
  have h3 := pAll_iff.1 h m hm
  have e : m = xs[i] := by
    obtain ⟨j, hj, e⟩ := List.mem_iff_getElem.1 h3
    by_cases c : j = i
    · subst c; exact e.symm
    · exfalso
      apply hn
      rw [← e]
      exact List.mem_eraseIdx_iff_getElem.2 ⟨j, hj, c, rfl⟩
  rw [← e]
  exact ⟨hm, hn⟩
theorem least_nodup {need xs : List Int} (h : pAll need xs = true) (hl : Least (pAll need) xs) : xs.Nodup := by
  refine List.pairwise_iff_getElem.2 (fun i j hi hj hij e => ?_)
  have h1 := (least_mem h hl j hj).2
  apply h1
  rw [← e]
  exact List.mem_eraseIdx_iff_getElem.2 ⟨i, hi, by omega, rfl⟩
theorem least_sub {need xs : List Int} (h : pAll need xs = true) (hl : Least (pAll need) xs) : ∀ a, a ∈ xs ↔ a ∈ need := fun a => by
  constructor
  · intro ha
    obtain ⟨j, hj, e⟩ := List.mem_iff_getElem.1 ha
    rw [← e]; exact (least_mem h hl j hj).1
  · exact pAll_iff.1 h a
theorem least_tight {need xs : List Int} (h : pAll need xs = true) (hl : Least (pAll need) xs) : Tight (pAll need) xs := fun f t hft ht => by
  have hf : f < xs.length := by omega
  obtain ⟨h1, h2⟩ := least_mem h hl f hf
  rw [Bool.eq_false_iff]
  intro c
  apply h2
  have h3 := pAll_iff.1 c _ h1
  rw [← erase_eq]
  rcases List.mem_append.1 h3 with h3 | h3
  · exact List.mem_append_left _ h3
  · refine List.mem_append_right _ ?_
    have e : xs.drop t = (xs.drop (f + 1)).drop (t - (f + 1)) := by rw [List.drop_drop]; congr 1; omega
    rw [e] at h3
    exact List.mem_of_mem_drop h3
theorem least_one {xs : List Int} (h : pPos xs = true) (hl : Least pPos xs) : xs.length = 1 := by
  have h0 : 0 < xs.length := by unfold pPos at h; simpa using h
  have h1 := hl 0 h0
  unfold pPos at h1
  rw [List.length_eraseIdx, if_pos h0] at h1
  simp at h1
  omega

theorem sortL_le (xs : List Int) : (sortL xs).Pairwise (fun a b => a ≤ b) := by
  have h := List.pairwise_mergeSort (le := fun x y : Int => decide (x ≤ y)) (fun a b c h1 h2 => by simp at *; omega) (fun a b => by simp; omega) xs
  unfold sortL
  exact h.imp (fun h => by simpa using h)
theorem strict_eq : ∀ {x y : List Int}, x.Pairwise (· < ·) → y.Pairwise (· < ·) → (∀ a, a ∈ x ↔ a ∈ y) → x = y
  | [], [], _, _, _ => rfl
  | [], b :: y, _, _, h => by have := (h b).2 (by simp); cases this
  | a :: x, [], _, _, h => by have := (h a).1 (by simp); cases this
  | a :: x, b :: y, h1, h2, h => by
    obtain ⟨p1, p2⟩ := List.pairwise_cons.1 h1
    obtain ⟨q1, q2⟩ := List.pairwise_cons.1 h2
    have e : a = b := by
      rcases List.mem_cons.1 ((h a).1 (by simp)) with e | ha
      · exact e
      · rcases List.mem_cons.1 ((h b).2 (by simp)) with e | hb
        · exact e.symm
        · have := q1 _ ha; have := p1 _ hb; omega
    subst e
    rw [strict_eq p2 q2 (fun c => ?_)]
    have hc := h c
    simp only [List.mem_cons] at hc
    constructor
    · intro hx
      rcases hc.1 (.inr hx) with e | hy
      · subst e; have := p1 _ hx; omega
      · exact hy
    · intro hy
      rcases hc.2 (.inr hy) with e | hx
      · subst e; have := q1 _ hy; omega
      · exact hx
open Go.Lib in
theorem compact_up {zs : List Int} (hs : zs.Pairwise (· ≤ ·)) : ∀ m, m ≤ zs.length → (compactUpTo zs.toArray m).Pairwise (· < ·) ∧ (∀ a, a ∈ compactUpTo zs.toArray m ↔ ∃ j, j < m ∧ zs.getD j 0 = a)
  | 0, _ => ⟨by simp [compactUpTo], fun a => by simp [compactUpTo]⟩
  | m + 1, hm => by
    obtain ⟨i1, i2⟩ := compact_up hs m (by omega)
    have hmono : ∀ i j, i ≤ j → j < zs.length → zs.getD i 0 ≤ zs.getD j 0 := fun i j hij hj => by
      by_cases e : i = j
      · subst e; omega
      · have := List.pairwise_iff_getElem.1 hs i j (by omega) hj (by omega)
        simpa [List.getD_eq_getElem?_getD, List.getElem?_eq_getElem hj, List.getElem?_eq_getElem (show i < zs.length by omega)] using this
    have hd : ∀ j, j < zs.length → (zs.toArray)[j]! = zs.getD j 0 := fun j hj => by
      simp [getElem!_pos, hj, List.getD_eq_getElem?_getD]
    rw [compactUpTo_succ]
    by_cases c : m = 0 ∨ zs.getD m 0 ≠ zs.getD (m - 1) 0
    · have hk : keeps zs.toArray m = true := by
        unfold keeps
        rw [decide_eq_true_eq, hd m (by omega)]
        rcases c with c | c
        · exact .inl c
        · right; rw [hd (m - 1) (by omega)]; exact c
      rw [if_pos hk, hd m (by omega)]
      refine ⟨List.pairwise_append.2 ⟨i1, List.pairwise_singleton _ _, fun x hx y hy => ?_⟩, fun a => ?_⟩
      · simp only [List.mem_singleton] at hy
        subst hy
        obtain ⟨j, hj, rfl⟩ := (i2 x).1 hx
        rcases c with c | c
        · omega
        · have h1 := hmono j (m - 1) (by omega) (by omega)
          have h2 := hmono (m - 1) m (by omega) (by omega)
          omega
      · rw [List.mem_append, i2]
        simp only [List.mem_singleton]
        constructor
        · rintro (⟨j, hj, e⟩ | e)
          · exact ⟨j, by omega, e⟩
          · exact ⟨m, by omega, e.symm⟩
        · rintro ⟨j, hj, e⟩
          by_cases q : j = m
          · subst q; exact .inr e.symm
          · exact .inl ⟨j, by omega, e⟩
    · have c1 : m ≠ 0 := fun e => c (.inl e)
      have c2 : zs.getD m 0 = zs.getD (m - 1) 0 := Decidable.byContradiction (fun e => c (.inr e))
      have hk : keeps zs.toArray m = false := by
        unfold keeps
        rw [decide_eq_false_iff_not, hd m (by omega), hd (m - 1) (by omega)]
        rintro (h | h)
        · exact c1 h
        · exact h c2
      rw [if_neg (by rw [hk]; exact Bool.false_ne_true), List.append_nil]
      refine ⟨i1, fun a => ?_⟩
      rw [i2]
      constructor
      · rintro ⟨j, hj, e⟩; exact ⟨j, by omega, e⟩
      · rintro ⟨j, hj, e⟩
        by_cases q : j = m
        · subst q; exact ⟨j - 1, by omega, by rw [← c2]; exact e⟩
        · exact ⟨j, by omega, e⟩
theorem want_eq {need xs : List Int} (h : pAll need xs = true) (hl : Least (pAll need) xs) : sortL xs = Go.Lib.compact (sortL need) := by
  have hc := compact_up (sortL_le need) (sortL need).length (Nat.le_refl _)
  refine strict_eq ?_ hc.1 (fun a => ?_)
  · have h1 := sortL_le xs
    have h2 : (sortL xs).Nodup := (sortL_perm xs).nodup_iff.2 (least_nodup h hl)
    exact (h1.and h2).imp (fun {a b} ⟨h3, h4⟩ => by have : a ≠ b := h4; omega)
  · show _ ↔ a ∈ Go.Lib.compactUpTo _ _
    rw [hc.2, (sortL_perm xs).mem_iff, least_sub h hl, ← (sortL_perm need).mem_iff]
    constructor
    · intro ha
      obtain ⟨j, hj, e⟩ := List.mem_iff_getElem.1 ha
      exact ⟨j, hj, by rw [List.getD_eq_getElem?_getD, List.getElem?_eq_getElem hj]; exact e⟩
    · rintro ⟨j, hj, e⟩
      rw [List.getD_eq_getElem?_getD, List.getElem?_eq_getElem hj] at e
      rw [← e]; exact List.getElem_mem hj
end Go.Proofs.Ytnikkakeiajmgaa.Sh
