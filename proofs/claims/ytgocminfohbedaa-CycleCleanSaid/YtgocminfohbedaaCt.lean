/- Actors that know one another: what the passes are to be (theory). -/
import Derived.Test.YtgocminfohbedaaProg
namespace Go.Proofs.Ytgocminfohbedaa.Cy
open Go

structure Know where
  ref : Int
  awake : Bool
  root : Bool
  refs : List Int
def noKnow : Know := ⟨0, false, false, []⟩
def refsOf (l : List Know) : List Int := l.map (·.ref)
def Know.up (k : Know) : Bool := k.root || k.awake
/-- Who is found alive, pass by pass. -/
structure Spec (l : List Know) (P : List (List Int)) : Prop where
  nodup : P.flatten.Nodup
  mem : ∀ x ∈ P.flatten, x ∈ refsOf l
  ne : ∀ p ∈ P, p ≠ []
  root : ∀ k ∈ l, (k.ref ∈ P.getD 0 [] ↔ k.up = true)
  level : ∀ i, i + 1 < P.length → ∀ x ∈ P.getD (i + 1) [], ∃ k ∈ l, k.ref ∈ P.getD i [] ∧ x ∈ k.refs
  closed : ∀ k ∈ l, k.ref ∈ P.flatten → ∀ x ∈ k.refs, x ∈ refsOf l → x ∈ P.flatten
theorem nodup_le {a : List Int} : ∀ {b : List Int}, a.Nodup → (∀ x ∈ a, x ∈ b) → a.length ≤ b.length := by
  induction a with
  | nil => intro b _ _; simp
  | cons x a ih =>
    intro b hn hs
    obtain ⟨h1, h2⟩ := List.nodup_cons.1 hn
    have hx := hs x (by simp)
    have := ih (b := b.erase x) h2 (fun y hy => (List.mem_erase_of_ne (fun e => h1 (by rw [← e]; exact hy))).2 (hs y (by simp [hy])))
    rw [List.length_erase_of_mem hx] at this
    have := List.length_pos_of_mem hx
    simp only [List.length_cons]
    omega
/-- What is so at the head of the passes: D is done, p comes next. -/
structure PI (l : List Know) (D : List (List Int)) (p : List Int) : Prop where
  nodup : (D.flatten ++ p).Nodup
  mem : ∀ x ∈ D.flatten ++ p, x ∈ refsOf l
  ne : ∀ q ∈ D, q ≠ []
  root : ∀ k ∈ l, (k.ref ∈ (D ++ [p]).getD 0 [] ↔ k.up = true)
  level : ∀ i, i + 1 < (D ++ [p]).length → ∀ x ∈ (D ++ [p]).getD (i + 1) [], ∃ k ∈ l, k.ref ∈ (D ++ [p]).getD i [] ∧ x ∈ k.refs
  closed : ∀ k ∈ l, k.ref ∈ D.flatten → ∀ x ∈ k.refs, x ∈ refsOf l → x ∈ D.flatten ++ p
theorem PI.done {l : List Know} {D : List (List Int)} (h : PI l D []) : Spec l D := by
  have e : ∀ i, i < D.length → (D ++ [([] : List Int)]).getD i [] = D.getD i [] := fun i hi => by
    rw [List.getD_eq_getElem?_getD, List.getElem?_append_left hi, ← List.getD_eq_getElem?_getD]
  have e0 : (D ++ [([] : List Int)]).getD 0 [] = D.getD 0 [] := by
    cases D with
    | nil => rfl
    | cons x D => rfl
  refine ⟨by simpa using h.nodup, fun x hx => h.mem x (by simp [hx]), h.ne, fun k hk => by rw [← e0]; exact h.root k hk, fun i hi x hx => ?_, fun k hk hr x hx hv => by simpa using h.closed k hk hr x hx hv⟩
  obtain ⟨k, hk, k1, k2⟩ := h.level i (by simp; omega) x (by rw [e (i + 1) hi]; exact hx)
  exact ⟨k, hk, by rw [← e i (by omega)]; exact k1, k2⟩
/-- Within a pass: q is found so far; the first j of p are through, and of the next one the first t. -/
structure QI (l : List Know) (D : List (List Int)) (p q : List Int) (now : List Int) : Prop where
  nodup : (D.flatten ++ p ++ q).Nodup
  mem : ∀ x ∈ q, x ∈ refsOf l
  level : ∀ x ∈ q, ∃ k ∈ l, k.ref ∈ p ∧ x ∈ k.refs
  seen : ∀ x ∈ now, x ∈ refsOf l → x ∈ D.flatten ++ p ++ q
theorem QI.start {l : List Know} {D : List (List Int)} {p : List Int} (h : PI l D p) : QI l D p [] [] :=
  ⟨by simpa using h.nodup, fun x hx => by simp at hx, fun x hx => by simp at hx, fun x hx => by simp at hx⟩
theorem QI.skip {l : List Know} {D : List (List Int)} {p q now : List Int} (h : QI l D p q now) {x : Int} (hx : x ∈ refsOf l → x ∈ D.flatten ++ p ++ q) : QI l D p q (now ++ [x]) :=
  ⟨h.nodup, h.mem, h.level, fun y hy hv => by
    rcases List.mem_append.1 hy with c | c
    · exact h.seen y c hv
    · simp at c; subst c; exact hx hv⟩
theorem QI.take {l : List Know} {D : List (List Int)} {p q now : List Int} (h : QI l D p q now) {x : Int} (hv : x ∈ refsOf l) (hn : x ∉ D.flatten ++ p ++ q) (hk : ∃ k ∈ l, k.ref ∈ p ∧ x ∈ k.refs) : QI l D p (q ++ [x]) (now ++ [x]) := by
  refine ⟨?_, fun y hy => ?_, fun y hy => ?_, fun y hy hvy => ?_⟩
  · rw [← List.append_assoc, List.nodup_append]
    exact ⟨h.nodup, by simp, fun a ha b hb e => by simp at hb; subst hb; subst e; exact hn ha⟩
  · rcases List.mem_append.1 hy with c | c
    · exact h.mem y c
    · simp at c; subst c; exact hv
  · rcases List.mem_append.1 hy with c | c
    · exact h.level y c
    · simp at c; subst c; exact hk
  · rw [← List.append_assoc]
    rcases List.mem_append.1 hy with c | c
    · exact List.mem_append_left _ (h.seen y c hvy)
    · exact List.mem_append_right _ c
/-- The pass is through. -/
theorem PI.step {l : List Know} {D : List (List Int)} {p q now : List Int} (h : PI l D p) (hp : p ≠ []) (hq : QI l D p q now) (hall : ∀ k ∈ l, k.ref ∈ p → ∀ x ∈ k.refs, x ∈ now) : PI l (D ++ [p]) q := by
  have ef : (D ++ [p]).flatten = D.flatten ++ p := by simp
  have eg : ∀ i, i < D.length + 1 → ((D ++ [p]) ++ [q]).getD i [] = (D ++ [p]).getD i [] := fun i hi => by
    rw [List.getD_eq_getElem?_getD, List.getElem?_append_left (by simp; omega), ← List.getD_eq_getElem?_getD]
  refine ⟨by rw [ef]; exact hq.nodup, fun x hx => ?_, fun r hr => ?_, fun k hk => by rw [eg 0 (by omega)]; exact h.root k hk, fun i hi x hx => ?_, fun k hk hr x hx hv => ?_⟩
  · rw [ef] at hx
    rcases List.mem_append.1 hx with c | c
    · exact h.mem x c
    · exact hq.mem x c
  · rcases List.mem_append.1 hr with c | c
    · exact h.ne r c
    · simp at c; subst c; exact hp
  · simp only [List.length_append, List.length_cons, List.length_nil] at hi
    rw [eg i (by omega)]
    by_cases c : i + 1 < D.length + 1
    · rw [eg (i + 1) c] at hx
      exact h.level i (by simp; omega) x hx
    · have hi' : i = D.length := by omega
      subst hi'
      have e1 : ((D ++ [p]) ++ [q]).getD (D.length + 1) [] = q := by
        rw [List.getD_eq_getElem?_getD, List.getElem?_append_right (by simp)]
        simp
      have e2 : (D ++ [p]).getD D.length [] = p := by
        rw [List.getD_eq_getElem?_getD, List.getElem?_append_right (Nat.le_refl _)]
        simp
      rw [e1] at hx
      rw [e2]
      exact hq.level x hx
  · rw [ef] at hr ⊢
    rcases List.mem_append.1 hr with c | c
    · exact List.mem_append_left _ (h.closed k hk c x hx hv)
    · exact hq.seen x (hall k hk c x hx) hv
/-- In whatever order the next pass is. -/
theorem PI.perm {l : List Know} {D : List (List Int)} {p p' : List Int} (h : PI l D p) (hp : p'.Perm p) : PI l D p' := by
  have hm : ∀ x, x ∈ p' ↔ x ∈ p := fun x => hp.mem_iff
  have eg : ∀ i x, x ∈ (D ++ [p']).getD i [] ↔ x ∈ (D ++ [p]).getD i [] := fun i x => by
    by_cases c : i < D.length
    · rw [List.getD_eq_getElem?_getD, List.getD_eq_getElem?_getD, List.getElem?_append_left c, List.getElem?_append_left c]
    · by_cases e : i = D.length
      · subst e
        rw [List.getD_eq_getElem?_getD, List.getD_eq_getElem?_getD, List.getElem?_append_right (Nat.le_refl _), List.getElem?_append_right (Nat.le_refl _)]
        simpa using hm x
      · rw [List.getD_eq_getElem?_getD, List.getD_eq_getElem?_getD, List.getElem?_eq_none (by simp; omega), List.getElem?_eq_none (by simp; omega)]
  refine ⟨(List.Perm.append_left _ hp).nodup_iff.2 h.nodup, fun x hx => h.mem x ?_, h.ne, fun k hk => by rw [eg]; exact h.root k hk, fun i hi x hx => ?_, fun k hk hr x hx hv => ?_⟩
  · rcases List.mem_append.1 hx with c | c
    · exact List.mem_append_left _ c
    · exact List.mem_append_right _ ((hm x).1 c)
  · obtain ⟨k, hk, k1, k2⟩ := h.level i (by simp at hi ⊢; exact hi) x ((eg (i + 1) x).1 hx)
    exact ⟨k, hk, (eg i _).2 k1, k2⟩
  · rcases List.mem_append.1 (h.closed k hk hr x hx hv) with c | c
    · exact List.mem_append_left _ c
    · exact List.mem_append_right _ ((hm x).2 c)
theorem PI.start {l : List Know} (hd : (refsOf l).Nodup) : PI l [] (refsOf (l.filter Know.up)) := by
  have sub : (refsOf (l.filter Know.up)).Sublist (refsOf l) := (List.filter_sublist).map _
  refine ⟨by simpa using hd.sublist sub, fun x hx => sub.subset (by simpa using hx), fun q hq => (by cases hq), fun k hk => ?_, fun i hi => by simp at hi, fun k hk hr => by simp at hr⟩
  show k.ref ∈ refsOf (l.filter Know.up) ↔ k.up = true
  constructor
  · intro h
    obtain ⟨k', hk', e⟩ := List.mem_map.1 h
    obtain ⟨k1, k2⟩ := List.mem_filter.1 hk'
    have : k' = k := by
      have hp := List.pairwise_map.1 hd
      by_cases c : k' = k
      · exact c
      · exact absurd e (by
          obtain ⟨i, hi, e1⟩ := List.mem_iff_getElem.1 k1
          obtain ⟨j, hj, e2⟩ := List.mem_iff_getElem.1 hk
          have hij : i ≠ j := fun q => c (by subst q; rw [← e1, ← e2])
          rw [← e1, ← e2]
          rcases Nat.lt_or_gt_of_ne hij with q | q
          · exact List.pairwise_iff_getElem.1 hp i j hi hj q
          · exact fun z => List.pairwise_iff_getElem.1 hp j i hj hi q z.symm)
    subst this; exact k2
  · intro h
    exact List.mem_map.2 ⟨k, List.mem_filter.2 ⟨hk, h⟩, rfl⟩
theorem PI.len {l : List Know} {D : List (List Int)} {p : List Int} (h : PI l D p) : D.flatten.length + p.length ≤ l.length := by
  have := nodup_le h.nodup h.mem
  simpa [refsOf] using this
end Go.Proofs.Ytgocminfohbedaa.Cy
