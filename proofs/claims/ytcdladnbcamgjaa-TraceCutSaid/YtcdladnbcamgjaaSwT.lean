/- Two adjacent events that are of two places, of which none takes what the other one sends, may change places: the list stays a history, and all clocks stay. -/
import Derived.Test.YtcdladnbcamgjaaTh
namespace Go.Proofs.Ytcdladnbcamgjaa.SwT
open Go.Proofs.Ytcdladnbcamgjaa.Ev Go.Proofs.Ytcdladnbcamgjaa.CL Go.Proofs.Ytcdladnbcamgjaa.CW Go.Proofs.Ytcdladnbcamgjaa.Th

/-- The two events i and i + 1 have changed places. -/
def swp (l : List Ev) (i : Nat) : List Ev := (l.set i (ev l (i + 1))).set (i + 1) (ev l i)
theorem swp_length (l : List Ev) (i : Nat) : (swp l i).length = l.length := by simp [swp]
theorem swp_get (l : List Ev) (i j : Nat) (h : i + 1 < l.length) : ev (swp l i) j = if j = i then ev l (i + 1) else if j = i + 1 then ev l i else ev l j := by
  unfold swp ev
  simp only [List.getD_eq_getElem?_getD, List.getElem?_set, List.length_set]
  by_cases h1 : i + 1 = j
  · subst h1; simp [h]
  · by_cases h2 : i = j
    · subst h2; simp [show i < l.length by omega]
    · simp [h1, h2, Ne.symm h1, Ne.symm h2]
theorem swp_take_le (l : List Ev) (i j : Nat) (h : j ≤ i) : (swp l i).take j = l.take j := by
  unfold swp
  rw [List.take_set, List.take_set, List.set_eq_of_length_le (by simp; omega), List.set_eq_of_length_le (by simp; omega)]
theorem swp_take1 (l : List Ev) (i : Nat) (h : i + 1 < l.length) : (swp l i).take (i + 1) = l.take i ++ [ev l (i + 1)] := by
  have := swp_get l i i h
  rw [if_pos rfl] at this
  rw [take_succ _ i (by rw [swp_length]; omega), swp_take_le l i i (Nat.le_refl _)]
  show _ ++ [ev (swp l i) i] = _
  rw [this]
theorem swp_take2 (l : List Ev) (i : Nat) (h : i + 1 < l.length) : (swp l i).take (i + 2) = l.take i ++ [ev l (i + 1)] ++ [ev l i] := by
  have := swp_get l i (i + 1) h
  rw [if_neg (by omega), if_pos rfl] at this
  rw [take_succ _ (i + 1) (by rw [swp_length]; omega), swp_take1 l i h]
  show _ ++ [ev (swp l i) (i + 1)] = _
  rw [this]
theorem take2 (l : List Ev) (i : Nat) (h : i + 1 < l.length) : l.take (i + 2) = l.take i ++ [ev l i] ++ [ev l (i + 1)] := by
  rw [take_succ _ (i + 1) h, take_succ _ i (by omega)]
theorem swp_far (l : List Ev) (i j : Nat) (h : i + 1 < l.length) (hj : i + 2 ≤ j) : ev (swp l i) j = ev l j := by
  rw [swp_get l i j h, if_neg (by omega), if_neg (by omega)]

/-- The two have nothing to do with one another. -/
structure Sep (a b : Ev) : Prop where
  place : b.place ≠ a.place
  msg : ¬ (a.kind = 2 ∧ b.kind = 3 ∧ b.msg = a.msg)

theorem clk_step (s : St) {a b : Ev} (h : Sep a b) : (s.step a).clk b = s.clk b := by
  have hp : (s.step a).pre b = s.pre b := by
    unfold St.pre
    by_cases h3 : b.kind = 3
    · rw [if_pos h3, if_pos h3]
      show joinL (if b.place = a.place then _ else _) (if a.kind = 2 ∧ b.msg = a.msg then _ else _) = _
      rw [if_neg h.place, if_neg (fun q => h.msg ⟨q.1, h3, q.2⟩)]
    · rw [if_neg h3, if_neg h3]
      show (if b.place = a.place then _ else _) = _
      rw [if_neg h.place]
  unfold St.clk
  rw [hp]
theorem step_comm (s : St) {a b : Ev} (h : Sep a b) (h' : Sep b a) (h2 : ¬ (a.kind = 2 ∧ b.kind = 2 ∧ a.msg = b.msg)) : (s.step a).step b = (s.step b).step a := by
  have e1 := clk_step s h
  have e2 := clk_step s h'
  have f1 : (s.step a).step b = ⟨fun p => if p = b.place then s.clk b else if p = a.place then s.clk a else s.now p, fun m => if b.kind = 2 ∧ m = b.msg then s.clk b else if a.kind = 2 ∧ m = a.msg then s.clk a else s.way m⟩ := by
    rw [← e1]; rfl
  have f2 : (s.step b).step a = ⟨fun p => if p = a.place then s.clk a else if p = b.place then s.clk b else s.now p, fun m => if a.kind = 2 ∧ m = a.msg then s.clk a else if b.kind = 2 ∧ m = b.msg then s.clk b else s.way m⟩ := by
    rw [← e2]; rfl
  rw [f1, f2]
  congr 1
  · funext p
    by_cases x : p = b.place
    · rw [if_pos x, if_neg (fun y => h.place (x.symm.trans y)), if_pos x]
    · rw [if_neg x, if_neg x]
  · funext m
    by_cases x : b.kind = 2 ∧ m = b.msg
    · rw [if_pos x, if_neg (fun y => h2 ⟨y.1, x.1, y.2.symm.trans x.2⟩), if_pos x]
    · rw [if_neg x, if_neg x]

/-- Adjacent events of a history that are of two places and no message: what else is so. -/
theorem sep_all {l : List Ev} (hv : Valid l) {i : Nat} (h : i + 1 < l.length) (hs : Sep (ev l i) (ev l (i + 1))) :
    Sep (ev l (i + 1)) (ev l i) ∧ ¬ ((ev l i).kind = 2 ∧ (ev l (i + 1)).kind = 2 ∧ (ev l i).msg = (ev l (i + 1)).msg) ∧ ¬ ((ev l i).kind = 3 ∧ (ev l (i + 1)).kind = 3 ∧ (ev l i).msg = (ev l (i + 1)).msg) := by
  have f1 := hv i (by omega)
  have f2 := hv (i + 1) h
  rw [take_succ l i (by omega)] at f2
  refine ⟨⟨fun e => hs.place e.symm, ?_⟩, ?_, ?_⟩
  · rintro ⟨k2, k3, hm⟩
    have a := f1.took1 k3
    refine f2.sent k2 ?_
    rw [sends_snoc]
    have e : (l.getD (i + 1) noEv).msg = (l.getD i noEv).msg := hm.symm
    rw [e]
    split
    · exact List.mem_append_left _ a
    · exact a
  · rintro ⟨k1, k2, hm⟩
    refine f2.sent k2 ?_
    rw [sends_snoc, if_pos k1]
    exact List.mem_append_right _ (List.mem_singleton.2 hm.symm)
  · rintro ⟨k1, k2, hm⟩
    refine f2.took2 k2 ?_
    rw [takes_snoc, if_pos k1]
    exact List.mem_append_right _ (List.mem_singleton.2 hm.symm)

theorem mem_far {l : List Ev} {i : Nat} (h : i + 1 < l.length) (m : Nat) : ∀ j, i + 2 ≤ j → j ≤ l.length → ((m ∈ sends ((swp l i).take j) ↔ m ∈ sends (l.take j)) ∧ (m ∈ takes ((swp l i).take j) ↔ m ∈ takes (l.take j)))
  | 0, h1, _ => by omega
  | j + 1, h1, h2 => by
    by_cases e : j = i + 1
    · subst e
      rw [swp_take2 l i h, take2 l i h]
      constructor
      · simp only [sends_snoc]
        generalize ev l i = A, ev l (i + 1) = B, sends (l.take i) = S
        by_cases a : A.kind = 2 <;> by_cases b : B.kind = 2 <;> simp [a, b, or_comm]
      · simp only [takes_snoc]
        generalize ev l i = A, ev l (i + 1) = B, takes (l.take i) = S
        by_cases a : A.kind = 3 <;> by_cases b : B.kind = 3 <;> simp [a, b, or_comm]
    · obtain ⟨i1, i2⟩ := mem_far h m j (by omega) (by omega)
      have f : (swp l i).getD j noEv = l.getD j noEv := swp_far l i j h (by omega)
      rw [take_succ _ j (by rw [swp_length]; omega), take_succ l j (by omega), f]
      constructor
      · rw [sends_snoc, sends_snoc]; split <;> simp [i1]
      · rw [takes_snoc, takes_snoc]; split <;> simp [i2]

theorem swp_valid {l : List Ev} (hv : Valid l) {i : Nat} (h : i + 1 < l.length) (hs : Sep (ev l i) (ev l (i + 1))) : Valid (swp l i) := by
  obtain ⟨hs', h22, h33⟩ := sep_all hv h hs
  intro j hj
  rw [swp_length] at hj
  show Fits _ (ev (swp l i) j)
  by_cases h1 : j < i
  · rw [swp_take_le l i j (by omega), swp_get l i j h, if_neg (by omega), if_neg (by omega)]; exact hv j hj
  by_cases h2 : j = i
  · subst h2
    rw [swp_take_le l j j (Nat.le_refl _), swp_get l j j h, if_pos rfl]
    have f := hv (j + 1) h
    rw [take_succ l j (by omega)] at f
    refine ⟨f.k1, f.k3, f.p8, f.m, fun k hm => ?_, fun k => ?_, fun k hm => ?_⟩
    · refine f.sent k ?_
      rw [sends_snoc]; split
      · exact List.mem_append_left _ hm
      · exact hm
    · have a := f.took1 k
      rw [sends_snoc] at a
      by_cases k2 : (l.getD j noEv).kind = 2
      · rw [if_pos k2] at a
        rcases List.mem_append.1 a with a | a
        · exact a
        · exact absurd ⟨k2, k, List.mem_singleton.1 a⟩ hs.msg
      · rw [if_neg k2] at a; exact a
    · refine f.took2 k ?_
      rw [takes_snoc]; split
      · exact List.mem_append_left _ hm
      · exact hm
  by_cases h3 : j = i + 1
  · subst h3
    rw [swp_take1 l i h, swp_get l i (i + 1) h, if_neg (by omega), if_pos rfl]
    have f := hv i (by omega)
    refine ⟨f.k1, f.k3, f.p8, f.m, fun k hm => ?_, fun k => ?_, fun k hm => ?_⟩
    · rw [sends_snoc] at hm
      by_cases k2 : (ev l (i + 1)).kind = 2
      · rw [if_pos k2] at hm
        rcases List.mem_append.1 hm with hm | hm
        · exact f.sent k hm
        · exact h22 ⟨k, k2, List.mem_singleton.1 hm⟩
      · rw [if_neg k2] at hm; exact f.sent k hm
    · rw [sends_snoc]; split
      · exact List.mem_append_left _ (f.took1 k)
      · exact f.took1 k
    · rw [takes_snoc] at hm
      by_cases k2 : (ev l (i + 1)).kind = 3
      · rw [if_pos k2] at hm
        rcases List.mem_append.1 hm with hm | hm
        · exact f.took2 k hm
        · exact h33 ⟨k, k2, List.mem_singleton.1 hm⟩
      · rw [if_neg k2] at hm; exact f.took2 k hm
  · rw [swp_far l i j h (by omega)]
    have f := hv j hj
    exact ⟨f.k1, f.k3, f.p8, f.m, fun k hm => f.sent k ((mem_far h _ j (by omega) (by omega)).1.1 hm), fun k => (mem_far h _ j (by omega) (by omega)).1.2 (f.took1 k), fun k hm => f.took2 k ((mem_far h _ j (by omega) (by omega)).2.1 hm)⟩

theorem st_far {l : List Ev} (hv : Valid l) {i : Nat} (h : i + 1 < l.length) (hs : Sep (ev l i) (ev l (i + 1))) : ∀ j, i + 2 ≤ j → j ≤ l.length → stOf ((swp l i).take j) = stOf (l.take j)
  | 0, h1, _ => by omega
  | j + 1, h1, h2 => by
    by_cases e : j = i + 1
    · subst e
      obtain ⟨hs', h22, _⟩ := sep_all hv h hs
      rw [swp_take2 l i h, take2 l i h, stOf_snoc, stOf_snoc, stOf_snoc, stOf_snoc]
      exact (step_comm _ hs hs' h22).symm
    · have ih := st_far hv h hs j (by omega) (by omega)
      rw [take_succ _ j (by rw [swp_length]; omega), take_succ l j (by omega), stOf_snoc, stOf_snoc, ih]
      congr 1
      exact swp_far l i j h (by omega)
/-- All clocks stay. -/
theorem swp_clock {l : List Ev} (hv : Valid l) {i : Nat} (h : i + 1 < l.length) (hs : Sep (ev l i) (ev l (i + 1))) (j : Nat) (hj : j < l.length) :
    clockAt (swp l i) j = if j = i then clockAt l (i + 1) else if j = i + 1 then clockAt l i else clockAt l j := by
  obtain ⟨hs', h22, _⟩ := sep_all hv h hs
  show (stOf ((swp l i).take j)).clk (ev (swp l i) j) = _
  rw [swp_get l i j h]
  by_cases h2 : j = i
  · subst h2
    rw [if_pos rfl, if_pos rfl, swp_take_le l j j (Nat.le_refl _)]
    show _ = (stOf (l.take (j + 1))).clk (ev l (j + 1))
    rw [take_succ l j (by omega), stOf_snoc]
    exact (clk_step _ hs).symm
  by_cases h3 : j = i + 1
  · subst h3
    rw [if_neg h2, if_pos rfl, if_neg h2, if_pos rfl, swp_take1 l i h, stOf_snoc]
    exact clk_step _ hs'
  rw [if_neg h2, if_neg h2, if_neg h3, if_neg h3]
  show _ = (stOf (l.take j)).clk (ev l j)
  by_cases h1 : j < i
  · rw [swp_take_le l i j (by omega)]
  · rw [st_far hv h hs j (by omega) (by omega)]
theorem sep_of_not_ahead {l : List Ev} (hv : Valid l) {i : Nat} (h : i + 1 < l.length) (ha : aheadL l i (i + 1) = false) : Sep (ev l i) (ev l (i + 1)) := by
  have hn : ¬ Step l i (i + 1) := fun hs => by
    have := (ahead_iff hv (show i < l.length by omega) h).2 ⟨by omega, .step .refl hs⟩
    rw [ha] at this; cases this
  exact ⟨fun e => hn ⟨by omega, h, .inl e.symm⟩, fun ⟨a, b, c⟩ => hn ⟨by omega, h, .inr ⟨a, b, c.symm⟩⟩⟩
/-- Where the list with the two turned is a history too, and the places differ: no message goes from the one to the other. -/
theorem sep_of_valid {l : List Ev} (hv : Valid l) {i : Nat} (h : i + 1 < l.length) (hw : Valid (swp l i)) (hp : (ev l i).place ≠ (ev l (i + 1)).place) : Sep (ev l i) (ev l (i + 1)) := by
  refine ⟨fun e => hp e.symm, fun ⟨a, b, c⟩ => ?_⟩
  have f := hw i (by rw [swp_length]; omega)
  rw [swp_take_le l i i (Nat.le_refl _)] at f
  have e : (swp l i).getD i noEv = ev l (i + 1) := by
    have := swp_get l i i h
    rw [if_pos rfl] at this
    exact this
  rw [e] at f
  have t := f.took1 b
  rw [c] at t
  exact (hv i (by omega)).sent a t
end Go.Proofs.Ytcdladnbcamgjaa.SwT
