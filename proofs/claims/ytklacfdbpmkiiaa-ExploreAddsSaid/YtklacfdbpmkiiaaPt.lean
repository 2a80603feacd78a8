/- Rows of steps, of which some must stay in their order: rounds, normal forms, numbers of pairs. No program. -/
import Derived.WalkKit
namespace Go.Proofs.Ytklacfdbpmkiiaa.Pt

section
variable {α : Type} (dep : α → α → Bool) (who : α → Nat)

/-- The round of a step behind those that stand. -/
def lvOf (acc : List (α × Nat)) (s : α) : Nat := acc.foldl (fun m p => if dep p.1 s = true then max m (p.2 + 1) else m) 0
def levs : List α → List (α × Nat) → List (α × Nat)
  | [], acc => acc
  | s :: l, acc => levs l (acc ++ [(s, lvOf dep acc s)])
def pairs (l : List α) : List (α × Nat) := levs dep l []
def round (P : List (α × Nat)) (k : Nat) : List α := (P.filter (fun p => p.2 == k)).map (·.1)

theorem lvOf_snoc (acc : List (α × Nat)) (p : α × Nat) (s : α) : lvOf dep (acc ++ [p]) s = if dep p.1 s = true then max (lvOf dep acc s) (p.2 + 1) else lvOf dep acc s := by
  simp [lvOf, List.foldl_append]
theorem lvOf_perm {acc acc' : List (α × Nat)} (h : acc.Perm acc') (s : α) : lvOf dep acc s = lvOf dep acc' s := by
  unfold lvOf
  refine h.foldl_eq' (fun x _ y _ z => ?_) 0
  by_cases h1 : dep x.1 s = true
  · by_cases h2 : dep y.1 s = true
    · simp only [if_pos h1, if_pos h2]; omega
    · simp only [if_pos h1, if_neg h2]
  · by_cases h2 : dep y.1 s = true
    · simp only [if_neg h1, if_pos h2]
    · simp only [if_neg h1, if_neg h2]
theorem levs_append : ∀ (a b : List α) (acc : List (α × Nat)), levs dep (a ++ b) acc = levs dep b (levs dep a acc)
  | [], _, _ => rfl
  | _s :: a, b, _acc => levs_append a b _
theorem levs_perm : ∀ (l : List α) {acc acc' : List (α × Nat)}, acc.Perm acc' → (levs dep l acc).Perm (levs dep l acc')
  | [], _, _, h => h
  | s :: l, acc, acc', h => by
    unfold levs
    rw [lvOf_perm dep h s]
    exact levs_perm l (h.append_right _)
theorem levs_fst : ∀ (l : List α) (acc : List (α × Nat)), (levs dep l acc).map (·.1) = acc.map (·.1) ++ l
  | [], _ => by simp [levs]
  | s :: l, acc => by unfold levs; rw [levs_fst l]; simp
theorem pairs_fst (l : List α) : (pairs dep l).map (·.1) = l := by unfold pairs; rw [levs_fst]; rfl
theorem pairs_snoc (l : List α) (s : α) : pairs dep (l ++ [s]) = pairs dep l ++ [(s, lvOf dep (pairs dep l) s)] := by unfold pairs; rw [levs_append]; rfl
theorem pairs_swap (p q : List α) {x y : α} (h1 : dep x y = false) (h2 : dep y x = false) : (pairs dep (p ++ x :: y :: q)).Perm (pairs dep (p ++ y :: x :: q)) := by
  unfold pairs
  rw [levs_append, levs_append]
  generalize levs dep p [] = acc
  show (levs dep q _).Perm (levs dep q _)
  refine levs_perm dep q ?_
  rw [lvOf_snoc, lvOf_snoc, if_neg (by rw [h1]; exact Bool.false_ne_true), if_neg (by rw [h2]; exact Bool.false_ne_true), List.append_assoc, List.append_assoc]
  exact List.Perm.append_left _ (List.Perm.swap _ _ _)
theorem pairs_move (hs : ∀ a b, dep a b = dep b a) (q : List α) (s : α) : ∀ (p o : List α), (∀ u ∈ p, dep u s = false) → (pairs dep (o ++ (p ++ s :: q))).Perm (pairs dep (o ++ s :: (p ++ q)))
  | [], _, _ => List.Perm.refl _
  | t :: p, o, h => by
    have ih := pairs_move hs q s p (o ++ [t]) (fun u hu => h u (List.mem_cons_of_mem _ hu))
    have e1 : o ++ [t] ++ (p ++ s :: q) = o ++ (t :: p ++ s :: q) := by simp
    have e2 : o ++ [t] ++ s :: (p ++ q) = o ++ t :: s :: (p ++ q) := by simp
    rw [e1, e2] at ih
    have ht := h t (List.mem_cons_self ..)
    exact ih.trans (pairs_swap dep o (p ++ q) ht (by rw [hs]; exact ht))

theorem fold_ge (s : α) : ∀ (acc : List (α × Nat)) (m : Nat), m ≤ acc.foldl (fun m p => if dep p.1 s = true then max m (p.2 + 1) else m) m ∧ (∀ p ∈ acc, dep p.1 s = true → p.2 + 1 ≤ acc.foldl (fun m p => if dep p.1 s = true then max m (p.2 + 1) else m) m) ∧ (acc.foldl (fun m p => if dep p.1 s = true then max m (p.2 + 1) else m) m = m ∨ ∃ p ∈ acc, dep p.1 s = true ∧ acc.foldl (fun m p => if dep p.1 s = true then max m (p.2 + 1) else m) m = p.2 + 1)
  | [], m => ⟨Nat.le_refl _, (fun _ h => by cases h), .inl rfl⟩
  | x :: acc, m => by
    simp only [List.foldl_cons]
    by_cases c : dep x.1 s = true
    · rw [if_pos c]
      obtain ⟨i1, i2, i3⟩ := fold_ge s acc (max m (x.2 + 1))
      refine ⟨by omega, fun p hp hd => ?_, ?_⟩
      · rcases List.mem_cons.1 hp with rfl | hp
        · omega
        · exact i2 p hp hd
      · rcases i3 with e | ⟨p, hp, hd, e⟩
        · rw [e]
          by_cases c2 : m ≤ x.2 + 1
          · exact .inr ⟨x, List.mem_cons_self .., c, by omega⟩
          · exact .inl (by omega)
        · exact .inr ⟨p, List.mem_cons_of_mem _ hp, hd, e⟩
    · rw [if_neg c]
      obtain ⟨i1, i2, i3⟩ := fold_ge s acc m
      refine ⟨i1, fun p hp hd => ?_, ?_⟩
      · rcases List.mem_cons.1 hp with rfl | hp
        · exact absurd hd c
        · exact i2 p hp hd
      · rcases i3 with e | ⟨p, hp, hd, e⟩
        · exact .inl e
        · exact .inr ⟨p, List.mem_cons_of_mem _ hp, hd, e⟩

/-- What the rounds of a row are like. -/
structure Good (P : List (α × Nat)) : Prop where
  up : P.Pairwise (fun x y => dep x.1 y.1 = true → x.2 < y.2)
  held : ∀ s k, (s, k + 1) ∈ P → ∃ t, (t, k) ∈ P ∧ dep t s = true

theorem Good.snoc {P : List (α × Nat)} (h : Good dep P) (s : α) : Good dep (P ++ [(s, lvOf dep P s)]) := by
  obtain ⟨i1, i2, i3⟩ := fold_ge dep s P 0
  constructor
  · refine List.pairwise_append.2 ⟨h.up, List.pairwise_singleton _ _, fun x hx y hy hd => ?_⟩
    simp only [List.mem_singleton] at hy
    subst hy
    have := i2 x hx hd
    show x.2 < lvOf dep P s
    unfold lvOf; omega
  · intro t k hm
    rcases List.mem_append.1 hm with hm | hm
    · obtain ⟨u, hu, hd⟩ := h.held t k hm
      exact ⟨u, List.mem_append_left _ hu, hd⟩
    · simp only [List.mem_singleton, Prod.mk.injEq] at hm
      obtain ⟨rfl, hk⟩ := hm
      rcases i3 with e | ⟨p, hp, hd, e⟩
      · unfold lvOf at hk; omega
      · refine ⟨p.1, List.mem_append_left _ ?_, hd⟩
        have : p.2 = k := by unfold lvOf at hk; omega
        subst this; exact hp
theorem good_levs : ∀ (l : List α) {P : List (α × Nat)}, Good dep P → Good dep (levs dep l P)
  | [], _, h => h
  | s :: l, _, h => good_levs l (h.snoc dep s)
theorem good_pairs (l : List α) : Good dep (pairs dep l) := good_levs dep l ⟨List.Pairwise.nil, fun _ _ h => by cases h⟩

theorem mem_round {P : List (α × Nat)} {k : Nat} {s : α} : s ∈ round P k ↔ (s, k) ∈ P := by
  unfold round
  constructor
  · intro h
    obtain ⟨p, hp, rfl⟩ := List.mem_map.1 h
    obtain ⟨h1, h2⟩ := List.mem_filter.1 hp
    have : p.2 = k := by simpa using h2
    subst this; exact h1
  · intro h
    exact List.mem_map.2 ⟨(s, k), List.mem_filter.2 ⟨h, by simp⟩, rfl⟩
theorem round_indep {P : List (α × Nat)} (h : Good dep P) (k : Nat) : (round P k).Pairwise (fun x y => dep x y = false) := by
  unfold round
  refine List.pairwise_map.2 (List.pairwise_filter.2 (h.up.imp ?_))
  intro x y hxy h1 h2
  have e1 : x.2 = k := by simpa using h1
  have e2 : y.2 = k := by simpa using h2
  cases c : dep x.1 y.1 with
  | false => rfl
  | true => have := hxy c; omega

/-- The rounds of a row: of each the steps by who does them. -/
structure IsRounds (P : List (α × Nat)) (R : List (List α)) : Prop where
  perm : ∀ k, (R.getD k []).Perm (round P k)
  ne : ∀ k, k < R.length → R.getD k [] ≠ []
  up : ∀ k, (R.getD k []).Pairwise (fun a b => who a < who b)

theorem up_eq : ∀ {x y : List α}, x.Perm y → x.Pairwise (fun a b => who a < who b) → y.Pairwise (fun a b => who a < who b) → x = y
  | [], y, h, _, _ => by rw [List.nil_perm.1 h]
  | a :: x, [], h, _, _ => by have := h.length_eq; simp at this
  | a :: x, b :: y, h, h1, h2 => by
    obtain ⟨p1, p2⟩ := List.pairwise_cons.1 h1
    obtain ⟨q1, q2⟩ := List.pairwise_cons.1 h2
    have e : a = b := by
      rcases List.mem_cons.1 (h.subset (List.mem_cons_self ..)) with e | ha
      · exact e
      · rcases List.mem_cons.1 (h.symm.subset (List.mem_cons_self ..)) with e | hb
        · exact e.symm
        · have := q1 _ ha; have := p1 _ hb; omega
    subst e
    rw [up_eq h.cons_inv p2 q2]
theorem getD_nil {R : List (List α)} {k : Nat} (h : R.length ≤ k) : R.getD k [] = [] := by
  rw [List.getD_eq_getElem?_getD, List.getElem?_eq_none h]; rfl
theorem IsRounds.le {P P' : List (α × Nat)} {R R' : List (List α)} (h : IsRounds who P R) (h' : IsRounds who P' R') (hp : P.Perm P') : R.length ≤ R'.length := by
  by_cases c : R.length ≤ R'.length
  · exact c
  · exfalso
    have h1 := h.ne R'.length (by omega)
    have h2 := h'.perm R'.length
    rw [getD_nil (Nat.le_refl _)] at h2
    have h3 := h.perm R'.length
    have h4 : (round P R'.length).Perm (round P' R'.length) := (hp.filter _).map _
    exact h1 (((h3.trans h4).trans h2.symm).eq_nil)
theorem IsRounds.unique {P P' : List (α × Nat)} {R R' : List (List α)} (h : IsRounds who P R) (h' : IsRounds who P' R') (hp : P.Perm P') : R = R' := by
  have hl : R.length = R'.length := Nat.le_antisymm (h.le who h' hp) (h'.le who h hp.symm)
  refine List.ext_getElem hl (fun k h1 h2 => ?_)
  have e := up_eq who ((h.perm k).trans (((hp.filter _).map _).trans (h'.perm k).symm)) (h.up k) (h'.up k)
  rwa [List.getD_eq_getElem?_getD, List.getD_eq_getElem?_getD, List.getElem?_eq_getElem h1, List.getElem?_eq_getElem h2] at e
theorem strict_of (hw : ∀ a b, who a = who b → dep a b = true) (hs : ∀ a b, dep a b = dep b a) {P : List (α × Nat)} (hP : Good dep P) {k : Nat} {X : List α} (hX : X.Perm (round P k)) (hu : X.Pairwise (fun a b => who a ≤ who b)) : X.Pairwise (fun a b => who a < who b) := by
  have h1 : X.Pairwise (fun x y => dep x y = false) := (hX.pairwise_iff (fun {x y} h => by rw [hs]; exact h)).2 (round_indep dep hP k)
  refine (hu.and h1).imp ?_
  rintro a b ⟨hle, hd⟩
  have : who a ≠ who b := fun e => by rw [hw a b e] at hd; cases hd
  omega

theorem filter_le_one {M : List (α × Nat)} (h : M.Pairwise (fun x y => x.2 < y.2)) (k : Nat) : (M.filter (fun p => p.2 == k)).length ≤ 1 := by
  induction h with
  | nil => simp
  | @cons x M hx _ ih =>
    by_cases c : x.2 = k
    · rw [List.filter_cons_of_pos (by simp [c])]
      have : M.filter (fun p => p.2 == k) = [] := List.filter_eq_nil_iff.2 (fun p hp => by have := hx p hp; simp; omega)
      simp [this]
    · rw [List.filter_cons_of_neg (by simp [c])]; exact ih
theorem flat_step {M : List (α × Nat)} (h : M.Pairwise (fun x y => x.2 < y.2)) (n : Nat) : M.filter (fun p => decide (p.2 < n)) ++ M.filter (fun p => p.2 == n) = M.filter (fun p => decide (p.2 < n + 1)) := by
  induction h with
  | nil => rfl
  | @cons x M hx _ ih =>
    by_cases c : x.2 < n
    · rw [List.filter_cons_of_pos (by simp [c]), List.filter_cons_of_neg (by simp; omega), List.filter_cons_of_pos (by simp; omega), List.cons_append, ih]
    · have e0 : M.filter (fun p => decide (p.2 < n)) = [] := List.filter_eq_nil_iff.2 (fun p hp => by have := hx p hp; simp; omega)
      rw [List.filter_cons_of_neg (by simp; omega), e0, List.nil_append]
      by_cases c2 : x.2 = n
      · rw [List.filter_cons_of_pos (by simp [c2]), List.filter_cons_of_pos (by simp; omega), ← ih, e0, List.nil_append]
      · rw [List.filter_cons_of_neg (by simp [c2]), List.filter_cons_of_neg (by simp; omega), ← ih, e0, List.nil_append]
theorem flat_lt {M : List (α × Nat)} (h : M.Pairwise (fun x y => x.2 < y.2)) : ∀ n, (List.range n).flatMap (fun k => (M.filter (fun p => p.2 == k)).map (·.1)) = (M.filter (fun p => decide (p.2 < n))).map (·.1)
  | 0 => by simp
  | n + 1 => by
    rw [List.range_succ, List.flatMap_append, flat_lt h n, ← flat_step h n, List.map_append]
    simp
theorem flat_range (R : List (List α)) : R.flatten = (List.range R.length).flatMap (fun k => R.getD k []) := by
  rw [List.flatMap_def]
  congr 1
  refine List.ext_getElem (by simp) (fun k h1 h2 => ?_)
  rw [List.getElem_map, List.getElem_range, List.getD_eq_getElem?_getD, List.getElem?_eq_getElem h1]; rfl
/-- Steps that all depend on one another stand in the rounds as they stand in the row. -/
theorem IsRounds.proj {P : List (α × Nat)} {R : List (List α)} (hP : Good dep P) (h : IsRounds who P R) (S : α → Bool) (hS : ∀ x y, S x = true → S y = true → dep x y = true) : R.flatten.filter S = (P.map (·.1)).filter S := by
  obtain ⟨M, hM⟩ : ∃ M, M = P.filter (fun p => S p.1) := ⟨_, rfl⟩
  have hMp : M.Pairwise (fun x y => x.2 < y.2) := by
    rw [hM]
    exact List.pairwise_filter.2 (hP.up.imp (fun {x y} hxy h1 h2 => hxy (hS _ _ h1 h2)))
  have e1 : (P.map (·.1)).filter S = M.map (·.1) := by rw [List.filter_map, hM]; rfl
  have e2 : M.filter (fun p => decide (p.2 < R.length)) = M := List.filter_eq_self.2 (fun p hp => by
    have h1 : p ∈ P := by rw [hM] at hp; exact (List.mem_filter.1 hp).1
    have h2 : p.1 ∈ round P p.2 := mem_round.2 h1
    have h3 := (h.perm p.2).symm.subset h2
    by_cases c : p.2 < R.length
    · simp [c]
    · rw [getD_nil (by omega)] at h3; cases h3)
  rw [e1, ← e2, ← flat_lt hMp, flat_range, List.filter_flatMap]
  congr 1
  funext k
  have h1 : ((R.getD k []).filter S).Perm ((M.filter (fun p => p.2 == k)).map (·.1)) := by
    refine ((h.perm k).filter S).trans ?_
    unfold round
    rw [List.filter_map, List.filter_filter, hM, List.filter_filter]
    refine List.Perm.of_eq (congrArg _ (List.filter_congr (fun p _ => ?_)))
    exact Bool.and_comm _ _
  have h2 := filter_le_one hMp k
  revert h1 h2
  generalize M.filter (fun p => p.2 == k) = Z
  intro h1 h2
  match Z, h1, h2 with
  | [], h1, _ => exact h1.eq_nil
  | [z], h1, _ => exact List.perm_singleton.1 h1
  | _ :: _ :: _, _, h2 => simp at h2

/-- Of two rows all steps that depend on one another stand in one order. -/
def Proj (a b : List α) : Prop := ∀ S : α → Bool, (∀ x y, S x = true → S y = true → dep x y = true) → a.filter S = b.filter S
theorem Proj.of_rounds {a b : List α} {R : List (List α)} (h : IsRounds who (pairs dep a) R) (h' : IsRounds who (pairs dep b) R) : Proj dep a b := fun S hS => by
  have e1 := h.proj dep who (good_pairs dep a) S hS
  have e2 := h'.proj dep who (good_pairs dep b) S hS
  rw [pairs_fst] at e1 e2
  exact e1.symm.trans e2
theorem Proj.flat {a : List α} {R : List (List α)} (h : IsRounds who (pairs dep a) R) : Proj dep a R.flatten := fun S hS => by
  have e1 := h.proj dep who (good_pairs dep a) S hS
  rw [pairs_fst] at e1
  exact e1.symm
theorem Proj.perm [DecidableEq α] (hw : ∀ a b, who a = who b → dep a b = true) {a b : List α} (h : Proj dep a b) : a.Perm b := List.perm_iff_count.2 (fun x => by
  have e := h (fun y => y == x) (fun u v hu hv => by
    have e1 : u = x := by simpa using hu
    have e2 : v = x := by simpa using hv
    subst e1; subst e2; exact hw _ _ rfl)
  rw [List.count_eq_length_filter, List.count_eq_length_filter, e])

/-- Row x is the normal form of row l: who can, and comes first, goes ahead. -/
inductive Nrm : List α → List α → Prop where
  | nil : Nrm [] []
  | cons (p q out : List α) (s : α) (hf : ∀ u ∈ p, dep u s = false) (hb : ∀ (p' q' : List α) (t : α), p ++ s :: q = p' ++ t :: q' → (∀ u ∈ p', dep u t = false) → who s ≤ who t) (hn : Nrm (p ++ q) out) : Nrm (p ++ s :: q) (s :: out)

theorem Nrm.pairs (hs : ∀ a b, dep a b = dep b a) {l x : List α} (h : Nrm dep who l x) : ∀ o, (pairs dep (o ++ l)).Perm (pairs dep (o ++ x)) := by
  induction h with
  | nil => exact fun o => List.Perm.refl _
  | cons p q out s hf hb hn ih =>
    intro o
    refine (pairs_move dep hs q s p o hf).trans ?_
    have := ih (o ++ [s])
    simpa using this
theorem front {S : α → Bool} (hS : ∀ x y, S x = true → S y = true → dep x y = true) {p q : List α} {s : α} (hf : ∀ u ∈ p, dep u s = false) (h : S s = true) : (p ++ s :: q).filter S = s :: q.filter S ∧ p.filter S = [] := by
  have e : p.filter S = [] := List.filter_eq_nil_iff.2 (fun u hu hc => by have := hf u hu; rw [hS u s hc h] at this; cases this)
  exact ⟨by rw [List.filter_append, e, List.nil_append, List.filter_cons_of_pos h], e⟩
theorem two [DecidableEq α] (hw : ∀ a b, who a = who b → dep a b = true) (hs : ∀ a b, dep a b = dep b a) {u s : α} (h : dep u s = true) : ∀ x y, (x == u || x == s) = true → (y == u || y == s) = true → dep x y = true := fun x y hx hy => by
  have h1 : x = u ∨ x = s := by simpa using hx
  have h2 : y = u ∨ y = s := by simpa using hy
  rcases h1 with rfl | rfl
  · rcases h2 with rfl | rfl
    · exact hw _ _ rfl
    · exact h
  · rcases h2 with rfl | rfl
    · rw [hs]; exact h
    · exact hw _ _ rfl
theorem Proj.free [DecidableEq α] (hw : ∀ a b, who a = who b → dep a b = true) (hs : ∀ a b, dep a b = dep b a) {p q b : List α} {s : α} (h : Proj dep (p ++ s :: q) b) (hf : ∀ u ∈ p, dep u s = false) : ∃ p' q', b = p' ++ s :: q' ∧ ∀ u ∈ p', dep u s = false := by
  have hm : s ∈ b := by
    have e := h (fun y => y == s || y == s) (two dep who hw hs (hw s s rfl))
    rw [(front dep (two dep who hw hs (hw s s rfl)) hf (by simp)).1] at e
    have : s ∈ b.filter (fun y => y == s || y == s) := by rw [← e]; exact List.mem_cons_self ..
    exact (List.mem_filter.1 this).1
  obtain ⟨p', q', rfl, hn⟩ := List.eq_append_cons_of_mem hm
  refine ⟨p', q', rfl, fun u hu => ?_⟩
  cases c : dep u s with
  | false => rfl
  | true =>
    exfalso
    have e := h (fun y => y == u || y == s) (two dep who hw hs c)
    rw [(front dep (two dep who hw hs c) hf (by simp)).1, List.filter_append] at e
    have hne : u ∈ p'.filter (fun y => y == u || y == s) := List.mem_filter.2 ⟨hu, by simp⟩
    match hz : p'.filter (fun y => y == u || y == s), hne with
    | z :: Z, _ =>
      rw [hz, List.cons_append] at e
      have : s = z := by simpa using congrArg List.head? e
      have hzm : z ∈ p' := by
        have : z ∈ p'.filter (fun y => y == u || y == s) := by rw [hz]; exact List.mem_cons_self ..
        exact (List.mem_filter.1 this).1
      subst this; exact hn hzm
theorem Proj.drop {p q p2 q2 : List α} {s : α} (h : Proj dep (p ++ s :: q) (p2 ++ s :: q2)) (h1 : ∀ u ∈ p, dep u s = false) (h2 : ∀ u ∈ p2, dep u s = false) : Proj dep (p ++ q) (p2 ++ q2) := fun S hS => by
  have e := h S hS
  by_cases c : S s = true
  · obtain ⟨a1, a2⟩ := front (q := q) dep hS h1 c
    obtain ⟨b1, b2⟩ := front (q := q2) dep hS h2 c
    rw [a1, b1] at e
    rw [List.filter_append, List.filter_append, a2, b2]
    simpa using e
  · rw [List.filter_append, List.filter_append, List.filter_cons_of_neg c, List.filter_cons_of_neg c] at e
    rw [List.filter_append, List.filter_append]
    exact e
theorem Nrm.unique [DecidableEq α] (hw : ∀ a b, who a = who b → dep a b = true) (hs : ∀ a b, dep a b = dep b a) {a x : List α} (h : Nrm dep who a x) : ∀ {b y : List α}, Proj dep a b → Nrm dep who b y → x = y := by
  induction h with
  | nil =>
    intro b y hp hb
    have hz : b = [] := (hp.perm dep who hw).symm.eq_nil
    cases hb with
    | nil => rfl
    | cons p q out s _ _ _ => simp at hz
  | cons p q out s hf hb hn ih =>
    intro b y hp hy
    cases hy with
    | nil => have := (hp.perm dep who hw).length_eq; simp at this
    | cons p2 q2 out2 t hf2 hb2 hn2 =>
      obtain ⟨p', q', e', hf'⟩ := hp.free dep who hw hs hf
      have hts := hb2 p' q' s e' hf'
      have hp' : Proj dep (p2 ++ t :: q2) (p ++ s :: q) := fun S hS => (hp S hS).symm
      obtain ⟨p'', q'', e'', hf''⟩ := hp'.free dep who hw hs hf2
      have hst := hb p'' q'' t e'' hf''
      have hd : dep s t = true := hw s t (by omega)
      have e := hp (fun z => z == s || z == t) (two dep who hw hs hd)
      rw [(front dep (two dep who hw hs hd) hf (by simp)).1, (front dep (two dep who hw hs hd) hf2 (by simp)).1] at e
      have : s = t := by simpa using congrArg List.head? e
      subst this
      rw [ih (hp.drop dep hf hf2) hn2]
theorem best_ex (l : List α) : ∀ n, (∃ p q s, l = p ++ s :: q ∧ (∀ u ∈ p, dep u s = false) ∧ who s ≤ n) → ∃ p q s, l = p ++ s :: q ∧ (∀ u ∈ p, dep u s = false) ∧ ∀ (p' q' : List α) (t : α), l = p' ++ t :: q' → (∀ u ∈ p', dep u t = false) → who s ≤ who t
  | n, ⟨p, q, s, e, hf, hn⟩ => by
    by_cases c : ∃ p q s, l = p ++ s :: q ∧ (∀ u ∈ p, dep u s = false) ∧ who s + 1 ≤ n
    · match n, c with
      | 0, ⟨_, _, _, _, _, h⟩ => omega
      | m + 1, ⟨p, q, s, e, hf, h⟩ => exact best_ex l m ⟨p, q, s, e, hf, by omega⟩
    · refine ⟨p, q, s, e, hf, fun p' q' t e' hf' => ?_⟩
      by_cases c2 : who s ≤ who t
      · exact c2
      · exact absurd ⟨p', q', t, e', hf', by omega⟩ c
theorem nrm_ex : ∀ n, ∀ l : List α, l.length ≤ n → ∃ x, Nrm dep who l x
  | _, [], _ => ⟨[], .nil⟩
  | 0, _ :: _, h => by simp at h
  | n + 1, a :: l, h => by
    obtain ⟨p, q, s, e, hf, hb⟩ := best_ex dep who (a :: l) (who a) ⟨[], l, a, rfl, (fun _ h => by cases h), Nat.le_refl _⟩
    have hl : (p ++ q).length ≤ n := by have := congrArg List.length e; simp at this h ⊢; omega
    obtain ⟨x, hx⟩ := nrm_ex n (p ++ q) hl
    rw [e] at hb ⊢
    exact ⟨s :: x, .cons p q x s hf hb hx⟩
/-- Rows of one order are one but for steps that don't depend. -/
theorem Proj.pairs [DecidableEq α] (hw : ∀ a b, who a = who b → dep a b = true) (hs : ∀ a b, dep a b = dep b a) {a b : List α} (h : Proj dep a b) : (pairs dep a).Perm (pairs dep b) := by
  obtain ⟨x, hx⟩ := nrm_ex dep who _ a (Nat.le_refl _)
  obtain ⟨y, hy⟩ := nrm_ex dep who _ b (Nat.le_refl _)
  have e := hx.unique dep who hw hs h hy
  subst e
  exact (hx.pairs dep who hs []).trans (hy.pairs dep who hs []).symm

/-- How many pairs don't depend. -/
def nsw : List α → Nat
  | [] => 0
  | x :: l => l.countP (fun y => !dep x y) + nsw l
theorem nsw_snoc : ∀ (l : List α) (s : α), nsw dep (l ++ [s]) = nsw dep l + l.countP (fun x => !dep x s)
  | [], s => by simp [nsw]
  | x :: l, s => by
    simp only [List.cons_append, nsw, nsw_snoc l s, List.countP_append, List.countP_cons, List.countP_nil]
    omega
theorem nsw_perm (hs : ∀ a b, dep a b = dep b a) {a b : List α} (h : a.Perm b) : nsw dep a = nsw dep b := by
  induction h with
  | nil => rfl
  | cons x h ih => simp only [nsw]; rw [ih, h.countP_eq]
  | swap x y l => simp only [nsw, List.countP_cons, hs x y]; omega
  | trans _ _ i1 i2 => exact i1.trans i2
theorem nsw_le : ∀ l : List α, nsw dep l ≤ l.length * l.length
  | [] => by simp [nsw]
  | x :: l => by
    have h1 := nsw_le l
    have h2 : l.countP (fun y => !dep x y) ≤ l.length := List.countP_le_length
    simp only [nsw, List.length_cons]
    have : (l.length + 1) * (l.length + 1) = l.length * l.length + 2 * l.length + 1 := by rw [Nat.add_mul, Nat.mul_add]; omega
    omega
end
end Go.Proofs.Ytklacfdbpmkiiaa.Pt
