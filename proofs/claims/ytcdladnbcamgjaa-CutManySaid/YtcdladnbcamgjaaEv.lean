/- Histories as plain lists: which ones may be. No Go and no memory in it. -/
namespace Go.Proofs.Ytcdladnbcamgjaa.Ev

structure Ev where
  place : Nat
  kind : Nat
  msg : Nat
deriving DecidableEq

def noEv : Ev := ⟨0, 0, 0⟩

/-- The messages that were sent, the latest first; those that were taken. -/
def sends : List Ev → List Nat
  | [] => []
  | e :: l => if e.kind = 2 then e.msg :: sends l else sends l
def takes : List Ev → List Nat
  | [] => []
  | e :: l => if e.kind = 3 then e.msg :: takes l else takes l

theorem sends_snoc : ∀ (l : List Ev) (e : Ev), sends (l ++ [e]) = if e.kind = 2 then sends l ++ [e.msg] else sends l
  | [], e => by simp [sends]
  | x :: l, e => by
    simp only [List.cons_append, sends, sends_snoc l e]
    by_cases h : x.kind = 2 <;> by_cases h2 : e.kind = 2 <;> simp [h, h2]
theorem takes_snoc : ∀ (l : List Ev) (e : Ev), takes (l ++ [e]) = if e.kind = 3 then takes l ++ [e.msg] else takes l
  | [], e => by simp [takes]
  | x :: l, e => by
    simp only [List.cons_append, takes, takes_snoc l e]
    by_cases h : x.kind = 3 <;> by_cases h2 : e.kind = 3 <;> simp [h, h2]

/-- May this event come behind these? -/
structure Fits (l : List Ev) (e : Ev) : Prop where
  k1 : 1 ≤ e.kind
  k3 : e.kind ≤ 3
  p8 : e.place < 8
  m : e.kind ≠ 1 → e.msg ≤ 999
  sent : e.kind = 2 → e.msg ∉ sends l
  took1 : e.kind = 3 → e.msg ∈ sends l
  took2 : e.kind = 3 → e.msg ∉ takes l

/-- A history. -/
def Valid (l : List Ev) : Prop := ∀ i, i < l.length → Fits (l.take i) (l.getD i noEv)

theorem valid_nil : Valid [] := fun i h => by simp at h
theorem getD_lt (l : List Ev) (i : Nat) (h : i < l.length) : l.getD i noEv = l[i] := by simp [List.getD_eq_getElem?_getD, h]
theorem valid_take {l : List Ev} (h : Valid l) (n : Nat) : Valid (l.take n) := fun i hi => by
  have hi' : i < n ∧ i < l.length := by simp at hi; omega
  have := h i hi'.2
  rw [List.take_take, Nat.min_eq_left (by omega)]
  simpa [List.getD_eq_getElem?_getD, List.getElem?_take, hi'.1] using this
theorem valid_snoc {l : List Ev} {e : Ev} (h : Valid l) (he : Fits l e) : Valid (l ++ [e]) := fun i hi => by
  by_cases hl : i < l.length
  · have := h i hl
    rw [List.take_append_of_le_length (by omega)]
    simpa [List.getD_eq_getElem?_getD, List.getElem?_append_left hl] using this
  · have : i = l.length := by simp at hi; omega
    subst this
    simpa [List.getD_eq_getElem?_getD] using he
theorem take_succ (l : List Ev) (j : Nat) (h : j < l.length) : l.take (j + 1) = l.take j ++ [l.getD j noEv] := by
  rw [List.take_succ_eq_append_getElem h, getD_lt l j h]
theorem mem_takes : ∀ (l : List Ev) (m : Nat), m ∈ takes l → ∃ i, i < l.length ∧ (l.getD i noEv).kind = 3 ∧ (l.getD i noEv).msg = m
  | [], m, h => by simp [takes] at h
  | e :: l, m, h => by
    unfold takes at h
    by_cases hk : e.kind = 3
    · rw [if_pos hk] at h
      rcases List.mem_cons.1 h with rfl | h
      · exact ⟨0, by simp, by simpa using hk, by simp⟩
      · obtain ⟨i, h1, h2, h3⟩ := mem_takes l m h; exact ⟨i + 1, by simp; omega, by simpa using h2, by simpa using h3⟩
    · rw [if_neg hk] at h
      obtain ⟨i, h1, h2, h3⟩ := mem_takes l m h; exact ⟨i + 1, by simp; omega, by simpa using h2, by simpa using h3⟩
theorem mem_sends : ∀ (l : List Ev) (m : Nat), m ∈ sends l ↔ ∃ i, i < l.length ∧ (l.getD i noEv).kind = 2 ∧ (l.getD i noEv).msg = m
  | [], m => by simp [sends]
  | e :: l, m => by
    constructor
    · intro h
      unfold sends at h
      by_cases hk : e.kind = 2
      · rw [if_pos hk] at h
        rcases List.mem_cons.1 h with rfl | h
        · exact ⟨0, by simp, by simpa using hk, by simp⟩
        · obtain ⟨i, h1, h2, h3⟩ := (mem_sends l m).1 h; exact ⟨i + 1, by simp; omega, by simpa using h2, by simpa using h3⟩
      · rw [if_neg hk] at h
        obtain ⟨i, h1, h2, h3⟩ := (mem_sends l m).1 h; exact ⟨i + 1, by simp; omega, by simpa using h2, by simpa using h3⟩
    · rintro ⟨i, h1, h2, h3⟩
      unfold sends
      cases i with
      | zero => simp at h2 h3; simp [h2, h3]
      | succ i =>
        have : m ∈ sends l := (mem_sends l m).2 ⟨i, by simpa using h1, by simpa using h2, by simpa using h3⟩
        split
        · exact List.mem_cons_of_mem _ this
        · exact this
theorem sends_take_sub (l : List Ev) (i m : Nat) (h : m ∈ sends (l.take i)) : m ∈ sends l := by
  obtain ⟨j, h1, h2, h3⟩ := (mem_sends _ m).1 h
  have hj : j < i ∧ j < l.length := by simp at h1; omega
  refine (mem_sends l m).2 ⟨j, hj.2, ?_, ?_⟩
  · simpa [List.getD_eq_getElem?_getD, List.getElem?_take, hj.1] using h2
  · simpa [List.getD_eq_getElem?_getD, List.getElem?_take, hj.1] using h3
/-- What was taken was sent. -/
theorem takes_sub {l : List Ev} (h : Valid l) (m : Nat) (hm : m ∈ takes l) : m ∈ sends l := by
  obtain ⟨i, h1, h2, h3⟩ := mem_takes l m hm
  have := (h i h1).took1 h2
  rw [h3] at this
  exact sends_take_sub l i m this
end Go.Proofs.Ytcdladnbcamgjaa.Ev
