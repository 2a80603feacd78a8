/- Names: rows as sets; what merging them comes to. No program. -/
import Derived.Test.YtbkhjmdklghbiaaDoorNi
namespace Go.Proofs.YtbkhjmdklghbiaaDoor.Nm

theorem getD_set (l : List Row) (p : Nat) (r : Row) (i : Nat) (hp : p < l.length) : (l.set p r).getD i noRow = if i = p then r else l.getD i noRow := by
  simp only [List.getD_eq_getElem?_getD, List.getElem?_set]
  by_cases h : p = i
  · subst h; simp [hp]
  · rw [if_neg h, if_neg (fun q => h q.symm)]
theorem getD_ins (l : List Row) (p : Nat) (r : Row) (i : Nat) (hp : p ≤ l.length) : (insAt l p r).getD i noRow = if i < p then l.getD i noRow else if i = p then r else l.getD (i - 1) noRow := by
  unfold insAt
  simp only [List.getD_eq_getElem?_getD]
  have hl : (l.take p).length = p := by simp; omega
  by_cases h1 : i < p
  · rw [if_pos h1, List.getElem?_append_left (by omega), List.getElem?_take_of_lt h1]
  · rw [if_neg h1, List.getElem?_append_right (by omega), hl]
    by_cases h2 : i = p
    · subst h2; simp
    · rw [if_neg h2, show i - p = (i - p - 1) + 1 by omega, List.getElem?_cons_succ, List.getElem?_drop, show p + (i - p - 1) = i - 1 by omega]
theorem takeWhile_all {α : Type} (f : α → Bool) : ∀ (l : List α) (i : Nat) (d : α), i < (l.takeWhile f).length → f (l.getD i d) = true
  | [], i, d, h => by simp at h
  | x :: l, 0, d, h => by
    rw [List.takeWhile_cons] at h
    split at h
    · simpa
    · simp at h
  | x :: l, i + 1, d, h => by
    rw [List.takeWhile_cons] at h
    split at h
    · have := takeWhile_all f l i d (by simpa using h)
      simpa using this
    · simp at h
theorem takeWhile_end {α : Type} (f : α → Bool) : ∀ (l : List α) (d : α), (l.takeWhile f).length < l.length → f (l.getD (l.takeWhile f).length d) = false
  | [], d, h => by simp at h
  | x :: l, d, h => by
    rw [List.takeWhile_cons] at h ⊢
    split
    · rename_i hx
      rw [if_pos hx] at h
      have := takeWhile_end f l d (by simpa using h)
      simpa using this
    · rename_i hx
      simpa using hx
theorem posOf_lt (l : List Row) (t i : Nat) (h : i < posOf l t) : (l.getD i noRow).name < t := by
  have := takeWhile_all (fun r : Row => decide (r.name < t)) l i noRow h
  simpa using this
theorem posOf_end (l : List Row) (t : Nat) (h : posOf l t < l.length) : t ≤ (l.getD (posOf l t) noRow).name := by
  have := takeWhile_end (fun r : Row => decide (r.name < t)) l noRow h
  simp at this
  exact this
theorem posOf_le (l : List Row) (t : Nat) : posOf l t ≤ l.length := (List.takeWhile_sublist _).length_le
theorem hasRow_iff {l : List Row} {t : Nat} : hasRow l t = true ↔ posOf l t < l.length ∧ (l.getD (posOf l t) noRow).name = t := by simp [hasRow]

theorem mem_getD {l : List Row} {x : Row} : x ∈ l ↔ ∃ i, i < l.length ∧ l.getD i noRow = x := by
  constructor
  · intro h
    obtain ⟨i, hi, e⟩ := List.mem_iff_getElem.1 h
    exact ⟨i, hi, by rw [List.getD_eq_getElem?_getD, List.getElem?_eq_getElem hi]; exact e⟩
  · rintro ⟨i, hi, e⟩
    rw [List.getD_eq_getElem?_getD, List.getElem?_eq_getElem hi] at e
    rw [← e]; exact List.getElem_mem hi
theorem WF.keys' {l : List Row} (h : WF l) {x : Row} (hx : x ∈ l) : x.name < 7 := by
  obtain ⟨i, hi, rfl⟩ := mem_getD.1 hx; exact h.keys i hi
theorem WF.uniq {l : List Row} (h : WF l) {x y : Row} (hx : x ∈ l) (hy : y ∈ l) (e : x.name = y.name) : x = y := by
  obtain ⟨i, hi, rfl⟩ := mem_getD.1 hx
  obtain ⟨j, hj, rfl⟩ := mem_getD.1 hy
  by_cases c : i = j
  · subst c; rfl
  · by_cases d : i < j
    · have := h.up i j d hj; omega
    · have := h.up j i (by omega) hi; omega
theorem has_mem {l : List Row} {t : Nat} (h : hasRow l t = true) : (l.getD (posOf l t) noRow) ∈ l ∧ (l.getD (posOf l t) noRow).name = t := by
  obtain ⟨h1, h2⟩ := hasRow_iff.1 h
  exact ⟨mem_getD.2 ⟨_, h1, rfl⟩, h2⟩
theorem not_mem {l : List Row} (hw : WF l) {t : Nat} (h : hasRow l t = false) {x : Row} (hx : x ∈ l) : x.name ≠ t := fun e => by
  obtain ⟨i, hi, rfl⟩ := mem_getD.1 hx
  have hp : posOf l t = i := posOf_eq l t i (by omega) (fun k hk => by have := hw.up k i hk hi; omega) (fun _ => by omega)
  have : hasRow l t = true := hasRow_iff.2 ⟨by rw [hp]; exact hi, by rw [hp]; exact e⟩
  rw [h] at this; cases this
theorem WF.set {l : List Row} (h : WF l) {p : Nat} (hp : p < l.length) {r : Row} (hn : r.name = (l.getD p noRow).name) : WF (l.set p r) := by
  have hnode : ∀ i, ((l.set p r).getD i noRow).name = (l.getD i noRow).name := fun i => by
    rw [getD_set l p r i hp]
    by_cases e : i = p
    · rw [if_pos e, e, hn]
    · rw [if_neg e]
  refine ⟨fun i j hij hj => ?_, fun i hi => ?_⟩
  · rw [hnode, hnode]
    exact h.up i j hij (by simpa using hj)
  · rw [hnode]; exact h.keys i (by simpa using hi)
theorem WF.ins {l : List Row} (h : WF l) {r : Row} (hr : r.name < 7) (hn : hasRow l r.name = false) : WF (insAt l (posOf l r.name) r) := by
  have hp := posOf_le l r.name
  have hl := insAt_len l (posOf l r.name) r hp
  have hgt : posOf l r.name < l.length → r.name < (l.getD (posOf l r.name) noRow).name := fun hq => by
    have := posOf_end l r.name hq
    have : ¬ ((l.getD (posOf l r.name) noRow).name = r.name) := fun e => by
      rw [hasRow_iff.2 ⟨hq, e⟩] at hn; cases hn
    omega
  refine ⟨fun i j hij hj => ?_, fun i hi => ?_⟩
  · rw [getD_ins l _ r i hp, getD_ins l _ r j hp]
    rw [hl] at hj
    by_cases a : i < posOf l r.name
    · rw [if_pos a]
      by_cases b : j < posOf l r.name
      · rw [if_pos b]; exact h.up i j hij (by omega)
      · rw [if_neg b]
        by_cases c : j = posOf l r.name
        · rw [if_pos c]; exact posOf_lt l r.name i a
        · rw [if_neg c]; exact h.up i (j - 1) (by omega) (by omega)
    · rw [if_neg a, if_neg (show ¬ j < posOf l r.name by omega), if_neg (show ¬ j = posOf l r.name by omega)]
      by_cases c : i = posOf l r.name
      · rw [if_pos c]
        have := hgt (by omega)
        by_cases d : j - 1 = posOf l r.name
        · rw [d]; exact this
        · have := h.up (posOf l r.name) (j - 1) (by omega) (by omega)
          omega
      · rw [if_neg c]; exact h.up (i - 1) (j - 1) (by omega) (by omega)
  · rw [getD_ins l _ r i hp]
    rw [hl] at hi
    by_cases a : i < posOf l r.name
    · rw [if_pos a]; exact h.keys i (by omega)
    · rw [if_neg a]
      by_cases c : i = posOf l r.name
      · rw [if_pos c]; exact hr
      · rw [if_neg c]; exact h.keys (i - 1) (by omega)
theorem mem_ins {l : List Row} {p : Nat} {r x : Row} : x ∈ insAt l p r ↔ x = r ∨ x ∈ l := by
  unfold insAt
  rw [List.mem_append, List.mem_cons]
  have e : x ∈ l ↔ x ∈ l.take p ∨ x ∈ l.drop p := by rw [← List.mem_append, List.take_append_drop]
  rw [e]
  constructor
  · rintro (h | h | h)
    · exact .inr (.inl h)
    · exact .inl h
    · exact .inr (.inr h)
  · rintro (h | h | h)
    · exact .inr (.inl h)
    · exact .inl h
    · exact .inr (.inr h)
theorem mem_set {l : List Row} (hw : WF l) {p : Nat} (hp : p < l.length) {r x : Row} (hn : r.name = (l.getD p noRow).name) : x ∈ l.set p r ↔ x = r ∨ (x ∈ l ∧ x.name ≠ r.name) := by
  constructor
  · intro h
    obtain ⟨i, hi, e⟩ := mem_getD.1 h
    rw [getD_set l p r i hp] at e
    by_cases c : i = p
    · rw [if_pos c] at e; exact .inl e.symm
    · rw [if_neg c] at e
      have hi' : i < l.length := by simpa using hi
      refine .inr ⟨mem_getD.2 ⟨i, hi', e⟩, fun q => ?_⟩
      rw [← e, hn] at q
      by_cases d : i < p
      · have := hw.up i p d hp; omega
      · have := hw.up p i (by omega) hi'; omega
  · rintro (rfl | ⟨hx, hne⟩)
    · exact mem_getD.2 ⟨p, by simpa using hp, by rw [getD_set l p x p hp, if_pos rfl]⟩
    · obtain ⟨i, hi, e⟩ := mem_getD.1 hx
      refine mem_getD.2 ⟨i, by simpa using hi, ?_⟩
      rw [getD_set l p r i hp, if_neg (fun c => hne (by rw [← e, c, hn]))]
      exact e
theorem WF.rput {l : List Row} (h : WF l) {r : Row} (hr : r.name < 7) : WF (rput l r) := by
  unfold Nm.rput
  split
  · rename_i c
    exact h.set (hasRow_iff.1 c).1 (hasRow_iff.1 c).2.symm
  · rename_i c
    exact h.ins hr (by simpa using c)
theorem mem_rput {l : List Row} (hw : WF l) {r x : Row} : x ∈ rput l r ↔ x = r ∨ (x ∈ l ∧ x.name ≠ r.name) := by
  unfold rput
  split
  · rename_i c
    exact mem_set hw (hasRow_iff.1 c).1 (hasRow_iff.1 c).2.symm
  · rename_i c
    rw [mem_ins]
    constructor
    · rintro (h | h)
      · exact .inl h
      · exact .inr ⟨h, not_mem hw (by simpa using c) h⟩
    · rintro (h | h)
      · exact .inl h
      · exact .inr h.1
/-- A row that is heard of. -/
def mstep (l : List Row) (r : Row) : List Row := if hasRow l r.name = true then (if newer (l.getD (posOf l r.name) noRow) r = true then l.set (posOf l r.name) r else l) else insAt l (posOf l r.name) r
theorem newer_iff {x r : Row} : newer x r = true ↔ (x.count < r.count ∨ (x.count = r.count ∧ (x.node < r.node ∨ (x.node = r.node ∧ x.ref < r.ref)))) := by unfold newer; rw [decide_eq_true_eq]
theorem not_newer {x r : Row} : newer x r = false ↔ ¬ (x.count < r.count ∨ (x.count = r.count ∧ (x.node < r.node ∨ (x.node = r.node ∧ x.ref < r.ref)))) := by unfold newer; rw [decide_eq_false_iff_not]
theorem newer_eq {x y : Row} (e : x.name = y.name) (h1 : newer x y = false) (h2 : newer y x = false) : x = y := by
  rw [not_newer] at h1 h2
  obtain ⟨a, b, c, d⟩ := x
  obtain ⟨a', b', c', d'⟩ := y
  simp only at e h1 h2
  have e1 : c = c' := by omega
  have e2 : d = d' := by omega
  have e3 : b = b' := by omega
  rw [e, e1, e2, e3]
theorem newer_trans {x y z : Row} (h1 : newer x y = false) (h2 : newer y z = false) : newer x z = false := by
  rw [not_newer] at h1 h2 ⊢; omega
theorem newer_asymm {x y : Row} (h1 : newer x y = true) : newer y x = false := by
  rw [newer_iff] at h1; rw [not_newer]; omega
theorem newer_self (x : Row) : newer x x = false := by rw [not_newer]; omega
theorem WF.mstep {l : List Row} (h : WF l) {r : Row} (hr : r.name < 7) : WF (mstep l r) := by
  unfold Nm.mstep
  split
  · rename_i c
    split
    · exact h.set (hasRow_iff.1 c).1 (hasRow_iff.1 c).2.symm
    · exact h
  · rename_i c
    exact h.ins hr (by simpa using c)
theorem mem_mstep {l : List Row} (hw : WF l) {r x : Row} : x ∈ mstep l r → x = r ∨ x ∈ l := by
  unfold mstep
  split
  · rename_i c
    split
    · intro h
      rcases (mem_set hw (hasRow_iff.1 c).1 (hasRow_iff.1 c).2.symm).1 h with h | h
      · exact .inl h
      · exact .inr h.1
    · exact fun h => .inr h
  · exact fun h => mem_ins.1 h
/-- What was there is there, or a later one. -/
theorem mstep_old {l : List Row} (hw : WF l) {r x : Row} (hx : x ∈ l) : ∃ z ∈ mstep l r, z.name = x.name ∧ newer z x = false := by
  unfold mstep
  split
  · rename_i c
    obtain ⟨hm, hn⟩ := has_mem c
    split
    · rename_i d
      by_cases e : x.name = r.name
      · refine ⟨r, (mem_set hw (hasRow_iff.1 c).1 (hasRow_iff.1 c).2.symm).2 (.inl rfl), e.symm, ?_⟩
        have hxe : x = l.getD (posOf l r.name) noRow := hw.uniq hx hm (by rw [e, hn])
        rw [hxe]; exact newer_asymm d
      · exact ⟨x, (mem_set hw (hasRow_iff.1 c).1 (hasRow_iff.1 c).2.symm).2 (.inr ⟨hx, e⟩), rfl, newer_self x⟩
    · exact ⟨x, hx, rfl, newer_self x⟩
  · exact ⟨x, mem_ins.2 (.inr hx), rfl, newer_self x⟩
theorem mstep_new {l : List Row} (hw : WF l) (r : Row) : ∃ z ∈ mstep l r, z.name = r.name ∧ newer z r = false := by
  unfold mstep
  split
  · rename_i c
    obtain ⟨hm, hn⟩ := has_mem c
    split
    · exact ⟨r, (mem_set hw (hasRow_iff.1 c).1 (hasRow_iff.1 c).2.symm).2 (.inl rfl), rfl, newer_self r⟩
    · rename_i d
      exact ⟨_, hm, hn, by simpa using d⟩
  · exact ⟨r, mem_ins.2 (.inl rfl), rfl, newer_self r⟩
def rmerge (l k : List Row) : List Row := k.foldl mstep l
theorem WF.rmerge : ∀ (k : List Row) {l : List Row}, WF l → (∀ x ∈ k, x.name < 7) → WF (rmerge l k)
  | [], _, h, _ => h
  | r :: k, l, h, hk => WF.rmerge k (h.mstep (hk r (by simp))) (fun x hx => hk x (by simp [hx]))
theorem mem_rmerge : ∀ (k : List Row) {l : List Row} {x : Row}, WF l → (∀ y ∈ k, y.name < 7) → x ∈ rmerge l k → x ∈ l ∨ x ∈ k
  | [], _, _, _, _, hx => .inl hx
  | r :: k, l, x, h, hk, hx => by
    rcases mem_rmerge k (h.mstep (hk r (by simp))) (fun y hy => hk y (by simp [hy])) hx with q | q
    · rcases mem_mstep h q with q | q
      · subst q; exact .inr (by simp)
      · exact .inl q
    · exact .inr (by simp [q])
theorem rmerge_old : ∀ (k : List Row) {l : List Row} {x : Row}, WF l → (∀ y ∈ k, y.name < 7) → x ∈ l → ∃ z ∈ rmerge l k, z.name = x.name ∧ newer z x = false
  | [], _, x, _, _, hx => ⟨x, hx, rfl, newer_self x⟩
  | r :: k, l, x, h, hk, hx => by
    obtain ⟨z, hz, hn, hz2⟩ := mstep_old (r := r) h hx
    obtain ⟨z', hz', hn', hz2'⟩ := rmerge_old k (h.mstep (hk r (by simp))) (fun y hy => hk y (by simp [hy])) hz
    exact ⟨z', hz', hn'.trans hn, newer_trans hz2' hz2⟩
theorem rmerge_new : ∀ (k : List Row) {l : List Row} {x : Row}, WF l → (∀ y ∈ k, y.name < 7) → x ∈ k → ∃ z ∈ rmerge l k, z.name = x.name ∧ newer z x = false
  | [], _, _, _, _, hx => by cases hx
  | r :: k, l, x, h, hk, hx => by
    have hk' : ∀ y ∈ k, y.name < 7 := fun y hy => hk y (by simp [hy])
    rcases List.mem_cons.1 hx with rfl | hx
    · obtain ⟨z, hz, hn, hz2⟩ := mstep_new h x
      obtain ⟨z', hz', hn', hz2'⟩ := rmerge_old k (h.mstep (hk x (by simp))) hk' hz
      exact ⟨z', hz', hn'.trans hn, newer_trans hz2' hz2⟩
    · exact rmerge_new k (h.mstep (hk r (by simp))) hk' hx
/-- Rows l tell of P: each is of P, and of each of P there is one that is as late. -/
structure Rep (l : List Row) (P : Row → Prop) : Prop where
  sub : ∀ x ∈ l, P x
  top : ∀ y, P y → ∃ x ∈ l, x.name = y.name ∧ newer x y = false
theorem Rep.self (l : List Row) : Rep l (fun x => x ∈ l) := ⟨fun _ h => h, fun y h => ⟨y, h, rfl, newer_self y⟩⟩
theorem Rep.iff {l : List Row} {P Q : Row → Prop} (h : Rep l P) (hq : ∀ x, P x ↔ Q x) : Rep l Q := ⟨fun x hx => (hq x).1 (h.sub x hx), fun y hy => h.top y ((hq y).2 hy)⟩
theorem Rep.merge {l k : List Row} {P Q : Row → Prop} (h : Rep l P) (h' : Rep k Q) (hw : WF l) (hk : WF k) : Rep (rmerge l k) (fun x => P x ∨ Q x) := by
  have hk' : ∀ y ∈ k, y.name < 7 := fun y hy => hk.keys' hy
  refine ⟨fun x hx => ?_, fun y hy => ?_⟩
  · rcases mem_rmerge k hw hk' hx with q | q
    · exact .inl (h.sub x q)
    · exact .inr (h'.sub x q)
  · rcases hy with hy | hy
    · obtain ⟨x, hx, hn, h2⟩ := h.top y hy
      obtain ⟨z, hz, hn', h3⟩ := rmerge_old k hw hk' hx
      exact ⟨z, hz, hn'.trans hn, newer_trans h3 h2⟩
    · obtain ⟨x, hx, hn, h2⟩ := h'.top y hy
      obtain ⟨z, hz, hn', h3⟩ := rmerge_new k hw hk' hx
      exact ⟨z, hz, hn'.trans hn, newer_trans h3 h2⟩
theorem Rep.subset {l l' : List Row} {P : Row → Prop} (h : Rep l P) (h' : Rep l' P) (hw : WF l) : ∀ x ∈ l, x ∈ l' := fun x hx => by
  obtain ⟨y, hy, hn, h1⟩ := h'.top x (h.sub x hx)
  obtain ⟨z, hz, hn', h2⟩ := h.top y (h'.sub y hy)
  have e : z = x := hw.uniq hz hx (hn'.trans hn)
  subst e
  have : y = z := newer_eq hn h1 h2
  rw [← this]; exact hy
theorem sorted_ext : ∀ {l l' : List Row}, l.Pairwise (fun x y => x.name < y.name) → l'.Pairwise (fun x y => x.name < y.name) → (∀ x, x ∈ l ↔ x ∈ l') → l = l'
  | [], [], _, _, _ => rfl
  | [], b :: y, _, _, h => by have := (h b).2 (by simp); cases this
  | a :: x, [], _, _, h => by have := (h a).1 (by simp); cases this
  | a :: x, b :: y, h1, h2, h => by
    obtain ⟨p1, p2⟩ := List.pairwise_cons.1 h1
    obtain ⟨q1, q2⟩ := List.pairwise_cons.1 h2
    have e : a = b := by
      rcases List.mem_cons.1 ((h a).1 (by simp)) with e | ha
      · exact e
      · rcases List.mem_cons.1 ((h b).2 (by simp)) with e | hb
        · exact e.symm
        · have := q1 _ ha; have := p1 _ hb; omega
    subst e
    rw [sorted_ext p2 q2 (fun c => ?_)]
    have hc := h c
    simp only [List.mem_cons] at hc
    constructor
    · intro hx
      rcases hc.1 (.inr hx) with e | hy
      · subst e; have := p1 _ hx; omega
      · exact hy
    · intro hy
      rcases hc.2 (.inr hy) with e | hx
      · subst e; have := q1 _ hy; omega
      · exact hx
theorem WF.pair {l : List Row} (h : WF l) : l.Pairwise (fun x y => x.name < y.name) := List.pairwise_iff_getElem.2 (fun i j hi hj hij => by
  have := h.up i j hij hj
  rwa [List.getD_eq_getElem?_getD, List.getElem?_eq_getElem hi, List.getD_eq_getElem?_getD, List.getElem?_eq_getElem hj] at this)
theorem WF.ext {l l' : List Row} (h : WF l) (h' : WF l') (he : ∀ x, x ∈ l ↔ x ∈ l') : l = l' := sorted_ext h.pair h'.pair he
theorem Rep.unique {l l' : List Row} {P : Row → Prop} (h : Rep l P) (h' : Rep l' P) (hw : WF l) (hw' : WF l') : l = l' := hw.ext hw' (fun x => ⟨h.subset h' hw x, h'.subset h hw' x⟩)
theorem ref_mem {l : List Row} (hw : WF l) {x : Row} (hx : x ∈ l) : refOf l x.name = x.ref := by
  unfold refOf
  have hh : hasRow l x.name = true := by
    cases c : hasRow l x.name with
    | true => rfl
    | false => exact absurd rfl (not_mem hw c hx)
  rw [if_pos hh]
  obtain ⟨h1, h2⟩ := has_mem hh
  rw [hw.uniq h1 hx h2]
/-- The rows' counts. -/
theorem RB.mem {l : List Row} {c : Nat} (h : RB l c) {x : Row} (hx : x ∈ l) : (1 ≤ x.count ∧ x.count ≤ c) ∧ 1 ≤ x.node ∧ x.node ≤ 8 := by
  obtain ⟨i, hi, rfl⟩ := mem_getD.1 hx; exact ⟨h.c1 i hi, h.n8 i hi⟩
theorem RB.of {l : List Row} {c : Nat} (h : ∀ x ∈ l, (1 ≤ x.count ∧ x.count ≤ c) ∧ 1 ≤ x.node ∧ x.node ≤ 8) : RB l c :=
  ⟨fun i hi => (h _ (mem_getD.2 ⟨i, hi, rfl⟩)).1, fun i hi => (h _ (mem_getD.2 ⟨i, hi, rfl⟩)).2⟩
theorem RB.mono {l : List Row} {c d : Nat} (h : RB l c) (hcd : c ≤ d) : RB l d := RB.of (fun x hx => by have := h.mem hx; omega)
def cmax (c : Nat) (k : List Row) : Nat := k.foldl (fun c r => max c r.count) c
theorem cmax_ge : ∀ (k : List Row) (c : Nat), c ≤ cmax c k ∧ ∀ x ∈ k, x.count ≤ cmax c k
  | [], c => ⟨Nat.le_refl _, fun _ h => by cases h⟩
  | r :: k, c => by
    obtain ⟨h1, h2⟩ := cmax_ge k (max c r.count)
    show c ≤ cmax (max c r.count) k ∧ ∀ x ∈ r :: k, x.count ≤ cmax (max c r.count) k
    refine ⟨by omega, fun x hx => ?_⟩
    rcases List.mem_cons.1 hx with rfl | hx
    · omega
    · exact h2 x hx
theorem cmax_le : ∀ (k : List Row) (c b : Nat), c ≤ b → (∀ x ∈ k, x.count ≤ b) → cmax c k ≤ b
  | [], c, b, h, _ => h
  | r :: k, c, b, h, hk => cmax_le k (max c r.count) b (by have := hk r (by simp); omega) (fun x hx => hk x (by simp [hx]))
/-- What a node may be. -/
structure Ok (s : G) (b : Nat) : Prop where
  wf : WF s.rows
  rb : RB s.rows s.count
  me : 1 ≤ s.me ∧ s.me ≤ 8
  le : s.count ≤ b
def gmerge (s : G) (k : List Row) : G := ⟨s.me, cmax s.count k, rmerge s.rows k⟩
theorem Ok.mono {s : G} {b b' : Nat} (h : Ok s b) (hb : b ≤ b') : Ok s b' := ⟨h.wf, h.rb, h.me, Nat.le_trans h.le hb⟩
theorem Ok.new (me : Nat) (h1 : 1 ≤ me) (h8 : me ≤ 8) : Ok (gnew me) 0 := ⟨⟨fun i j _ h => by simp [gnew] at h, fun i h => by simp [gnew] at h⟩, ⟨fun i h => by simp [gnew] at h, fun i h => by simp [gnew] at h⟩, ⟨h1, h8⟩, Nat.le_refl _⟩
theorem Ok.gset {s : G} {b : Nat} (h : Ok s b) {t r : Nat} (ht : t < 7) : Ok (gset s t r) (b + 1) := by
  refine ⟨h.wf.rput ht, RB.of (fun x hx => ?_), h.me, by have := h.le; simp only [Nm.gset]; omega⟩
  have hc : (Nm.gset s t r).count = s.count + 1 := rfl
  rw [hc]
  rcases (mem_rput h.wf).1 hx with rfl | ⟨hx, -⟩
  · have := h.me; simp only; omega
  · have := h.rb.mem hx; omega
theorem Ok.gdrop {s : G} {b : Nat} (h : Ok s b) {t : Nat} (ht : t < 7) : Ok (gdrop s t) (b + 1) := by
  unfold Nm.gdrop
  split
  · exact h.mono (by omega)
  · exact h.gset ht
theorem Ok.gmerge {s : G} {b : Nat} (h : Ok s b) {k : List Row} {c : Nat} (hk : WF k) (hb : RB k c) (hc : c ≤ b) : Ok (gmerge s k) b := by
  have hk' : ∀ y ∈ k, y.name < 7 := fun y hy => hk.keys' hy
  obtain ⟨h1, h2⟩ := cmax_ge k s.count
  refine ⟨WF.rmerge k h.wf hk', RB.of (fun x hx => ?_), h.me, cmax_le k s.count b h.le (fun x hx => by have := hb.mem hx; omega)⟩
  have hcc : (Nm.gmerge s k).count = cmax s.count k := rfl
  rw [hcc]
  rcases mem_rmerge k h.wf hk' hx with q | q
  · have := h.rb.mem q; omega
  · have := hb.mem q; have := h2 x q; omega
end Go.Proofs.YtbkhjmdklghbiaaDoor.Nm
