/- Rows of rows of steps in memory; rounds as they come up. -/
import Derived.Test.YtnikkakeiajmgaaPe
namespace Go.Proofs.Ytnikkakeiajmgaa.Pa
open Go Go.RowKit Go.Proofs.Ytnikkakeiajmgaa Go.Proofs.Ytnikkakeiajmgaa.K Go.Proofs.Ytnikkakeiajmgaa.M Go.Proofs.Ytnikkakeiajmgaa.O Go.Proofs.Ytnikkakeiajmgaa.R Go.Proofs.Ytnikkakeiajmgaa.Pt

/-- Rounds, not yet by who does the steps. -/
structure URounds (P : List (St × Nat)) (R : List (List St)) : Prop where
  eq : ∀ k, R.getD k [] = round P k
  ne : ∀ k, k < R.length → R.getD k [] ≠ []
theorem URounds.start : URounds [] [] := ⟨fun k => by simp [round], fun k h => by simp at h⟩
theorem URounds.lv_le {P : List (St × Nat)} {R : List (List St)} (h : URounds P R) (s : St) : lvOf depS P s ≤ R.length := by
  obtain ⟨-, -, h3⟩ := fold_ge depS s P 0
  rcases h3 with e | ⟨p, hp, -, e⟩
  · unfold lvOf; omega
  · have h1 : p.1 ∈ round P p.2 := mem_round.2 hp
    have h2 : p.2 < R.length := by
      by_cases c : p.2 < R.length
      · exact c
      · rw [← h.eq, getD_nil (by omega)] at h1; cases h1
    unfold lvOf; omega
theorem round_snoc (P : List (St × Nat)) (s : St) (lv k : Nat) : round (P ++ [(s, lv)]) k = if lv = k then round P k ++ [s] else round P k := by
  unfold round
  rw [List.filter_append, List.map_append]
  by_cases c : lv = k
  · rw [if_pos c, List.filter_cons_of_pos (by simp [c])]; rfl
  · rw [if_neg c, List.filter_cons_of_neg (by simp [c])]; simp
theorem getD_set {α : Type} (R : List α) (i k : Nat) (x d : α) (hi : i < R.length) : (R.set i x).getD k d = if i = k then x else R.getD k d := by
  rw [List.getD_eq_getElem?_getD, List.getElem?_set, List.getD_eq_getElem?_getD]
  by_cases c : i = k
  · subst c; simp [hi]
  · simp [c]
theorem getD_snoc {α : Type} (R : List α) (k : Nat) (x d : α) : (R ++ [x]).getD k d = if k = R.length then x else R.getD k d := by
  rw [List.getD_eq_getElem?_getD, List.getD_eq_getElem?_getD]
  by_cases c : k = R.length
  · subst c; simp
  · rw [if_neg c]
    by_cases c2 : k < R.length
    · rw [List.getElem?_append_left c2]
    · rw [List.getElem?_eq_none (by simp; omega), List.getElem?_eq_none (by omega)]
/-- Room for the round of the next step. -/
def room (R : List (List St)) (lv : Nat) : List (List St) := if lv < R.length then R else R ++ [[]]
theorem room_get (R : List (List St)) (lv k : Nat) : (room R lv).getD k [] = R.getD k [] := by
  unfold room
  split
  · rfl
  · rw [getD_snoc]
    by_cases c : k = R.length
    · rw [if_pos c, getD_nil (by omega)]
    · rw [if_neg c]
theorem room_lt (R : List (List St)) (lv : Nat) (h : lv ≤ R.length) : lv < (room R lv).length := by
  unfold room
  split
  · assumption
  · simp; omega
theorem URounds.step {P : List (St × Nat)} {R : List (List St)} (h : URounds P R) (s : St) (lv : Nat) (hl : lv ≤ R.length) : URounds (P ++ [(s, lv)]) ((room R lv).set lv ((room R lv).getD lv [] ++ [s])) := by
  have hr := room_lt R lv hl
  constructor
  · intro k
    rw [getD_set _ _ _ _ _ hr, round_snoc, room_get, room_get, h.eq, h.eq]
    by_cases c : lv = k
    · rw [if_pos c, if_pos c, c]
    · rw [if_neg c, if_neg c]
  · intro k hk
    rw [List.length_set] at hk
    rw [getD_set _ _ _ _ _ hr]
    by_cases c : lv = k
    · rw [if_pos c]; simp
    · rw [if_neg c, room_get]
      refine h.ne k ?_
      unfold room at hk
      split at hk
      · exact hk
      · simp at hk; omega
theorem nodup_le : ∀ (n : Nat) (L : List Nat), L.Nodup → (∀ x ∈ L, x < n) → L.length ≤ n
  | 0, [], _, _ => Nat.le_refl _
  | 0, x :: _, _, h => by have := h x (by simp); omega
  | n + 1, L, hd, h => by
    have h1 := nodup_le n (L.erase n) (hd.erase n) (fun x hx => by
      have h2 := h x (List.mem_of_mem_erase hx)
      have h3 : x ≠ n := ((List.Nodup.mem_erase_iff hd).1 hx).1
      omega)
    have h4 : L.length ≤ (L.erase n).length + 1 := by rw [List.length_erase]; split <;> omega
    omega
theorem URounds.few {P : List (St × Nat)} {R : List (List St)} (h : URounds P R) (hP : Pt.Good depS P) (k : Nat) : (R.getD k []).length ≤ 8 := by
  rw [h.eq]
  have h1 := round_indep depS hP k
  have h2 : ((round P k).map whoS).Nodup := List.pairwise_map.2 (h1.imp (fun {a b} hd e => by rw [depS_who a b e] at hd; cases hd))
  have h3 := nodup_le 8 _ h2 (fun x hx => by obtain ⟨a, -, rfl⟩ := List.mem_map.1 hx; exact a.who.isLt)
  rwa [List.length_map] at h3
theorem URounds.sorted {P : List (St × Nat)} {R R' : List (List St)} (h : URounds P R) (hP : Pt.Good depS P) (hl : R'.length = R.length) (hs : ∀ k, k < R.length → (R'.getD k []).Perm (R.getD k []) ∧ (R'.getD k []).Pairwise (fun a b => whoS a ≤ whoS b)) : IsRounds whoS P R' := by
  have hp : ∀ k, (R'.getD k []).Perm (round P k) ∧ (R'.getD k []).Pairwise (fun a b => whoS a ≤ whoS b) := fun k => by
    by_cases c : k < R.length
    · rw [← h.eq]; exact hs k c
    · rw [← h.eq, getD_nil (R := R') (by omega), getD_nil (R := R) (by omega)]
      exact ⟨List.Perm.refl _, List.Pairwise.nil⟩
  refine ⟨fun k => (hp k).1, fun k hk => ?_, fun k => strict_of depS whoS depS_who depS_comm hP (hp k).1 (hp k).2⟩
  intro e
  have h1 := (hp k).1
  rw [e, ← h.eq] at h1
  exact h.ne k (by omega) h1.symm.eq_nil

/-- Rows of steps, each in a block of its own. -/
structure Rnd (w : World) (B : Nat) (us : List Value) (R : List (List St)) : Prop where
  len : us.length = R.length
  own : ∀ i, i < R.length → StepsOf w B (us.getD i undef) (R.getD i [])
  apart : ∀ i j k, i < R.length → j < R.length → (us.getD i undef).ownBlock = some k → (us.getD j undef).ownBlock = some k → i = j
theorem Rnd.nil (w : World) (B : Nat) : Rnd w B [] [] := ⟨rfl, fun i h => by simp at h, fun i j k h => by simp at h⟩
theorem Rnd.upd {w w' : World} {B : Nat} {us : List Value} {R : List (List St)} (h : Rnd w B us R) {T : List Nat} (u : Upd T w w') (hT : ∀ k cur, w.heap[k]? = some (.cells cur 29 (0, 0)) → k ∉ T) : Rnd w' B us R :=
  ⟨h.len, fun i hi => own_upd (h.own i hi) u (fun k hk => by obtain ⟨cur, hc⟩ := own_block (h.own i hi) k hk; exact hT k cur hc), h.apart⟩
theorem Rnd.new {w w' : World} {B : Nat} {us : List Value} {R : List (List St)} (h : Rnd w B us R) (u : Upd [] w w') : Rnd w' B us R := h.upd u (fun _ _ _ hs => by cases hs)
theorem Rnd.row {w w' : World} {B : Nat} {us : List Value} {R : List (List St)} (h : Rnd w B us R) {b' e' s' n' : Nat} {v' : Value} {xs' : List Value} (ho : w.ownsRow b' e' s' v' n' xs') (he : e' ≠ 29) (u : Upd v'.ownBlock.toList w w') : Rnd w' B us R := h.upd u (fun k _ hc hs => own_cells_ne ho hc he k (by simpa using hs) rfl)
theorem Rnd.push {w : World} {B : Nat} {us : List Value} {R : List (List St)} (h : Rnd w B us R) : Rnd w B (us ++ [.slice none 0 0]) (R ++ [[]]) := by
  refine ⟨by simp [h.len], fun i hi => ?_, fun i j k hi hj h1 h2 => ?_⟩
  · rw [getD_snoc, getD_snoc, h.len]
    by_cases c : i = R.length
    · rw [if_pos c, if_pos c]; exact World.ownsRow_nil _ _ _ _
    · rw [if_neg c, if_neg c]; exact h.own i (by simp at hi; omega)
  · rw [getD_snoc, h.len] at h1 h2
    by_cases c : i = R.length
    · rw [if_pos c] at h1; cases h1
    · by_cases c2 : j = R.length
      · rw [if_pos c2] at h2; cases h2
      · rw [if_neg c] at h1
        rw [if_neg c2] at h2
        exact h.apart i j k (by simp at hi; omega) (by simp at hj; omega) h1 h2
theorem Rnd.set {w w' : World} {B : Nat} {us : List Value} {R : List (List St)} (h : Rnd w B us R) {i : Nat} (hi : i < R.length) {v' : Value} {L : List St} (u : Upd (us.getD i undef).ownBlock.toList w w') (ho : StepsOf w' B v' L) (hb : ∀ k, v'.ownBlock = some k → (us.getD i undef).ownBlock = some k ∨ w.heap.size ≤ k) : Rnd w' B (us.set i v') (R.set i L) := by
  have hu : i < us.length := by rw [h.len]; exact hi
  refine ⟨by simp [h.len], fun j hj => ?_, fun j1 j2 k h1 h2 e1 e2 => ?_⟩
  · rw [List.length_set] at hj
    rw [getD_set _ _ _ _ _ hu, getD_set _ _ _ _ _ hi]
    by_cases c : i = j
    · rw [if_pos c, if_pos c]; exact ho
    · rw [if_neg c, if_neg c]
      exact own_upd (h.own j hj) u (fun k hk hs => c (h.apart i j k hi hj (by simpa using hs) hk))
  · rw [List.length_set] at h1 h2
    rw [getD_set _ _ _ _ _ hu] at e1 e2
    by_cases c1 : i = j1
    · by_cases c2 : i = j2
      · omega
      · rw [if_pos c1] at e1
        rw [if_neg c2] at e2
        rcases hb k e1 with hb | hb
        · exact absurd (h.apart i j2 k hi h2 hb e2) c2
        · have := own_lt (h.own j2 h2) k e2; omega
    · rw [if_neg c1] at e1
      by_cases c2 : i = j2
      · rw [if_pos c2] at e2
        rcases hb k e2 with hb | hb
        · exact absurd (h.apart i j1 k hi h1 hb e1) c1
        · have := own_lt (h.own j1 h1) k e1; omega
      · rw [if_neg c2] at e2
        exact h.apart j1 j2 k h1 h2 e1 e2
/-- A slice of rounds. -/
def OutAt (w : World) (B : Nat) (v : Value) (R : List (List St)) : Prop := ∃ us, w.ownsRow B 24 1 v R.length us ∧ Rnd w B us R
end Go.Proofs.Ytnikkakeiajmgaa.Pa
