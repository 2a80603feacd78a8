/- A part of a history that has all that led to what is in it: it is a history, and its events have the clocks that they had. -/
import Derived.Test.YtcdladnbcamgjaaTh
namespace Go.Proofs.Ytcdladnbcamgjaa.LdT
open Go.Proofs.Ytcdladnbcamgjaa.Ev Go.Proofs.Ytcdladnbcamgjaa.CL Go.Proofs.Ytcdladnbcamgjaa.CW Go.Proofs.Ytcdladnbcamgjaa.Th

def sub (l : List Ev) (S : Nat → Bool) : Nat → List Ev
  | 0 => []
  | j + 1 => if S j = true then sub l S j ++ [ev l j] else sub l S j
def Closed (l : List Ev) (S : Nat → Bool) : Prop := ∀ a b, Step l a b → S b = true → S a = true

theorem sub_yes {l : List Ev} {S : Nat → Bool} {j : Nat} (h : S j = true) : sub l S (j + 1) = sub l S j ++ [ev l j] := by
  show (if S j = true then _ else _) = _
  rw [if_pos h]
theorem sub_no {l : List Ev} {S : Nat → Bool} {j : Nat} (h : S j = false) : sub l S (j + 1) = sub l S j := by
  show (if S j = true then _ else _) = _
  rw [if_neg (by rw [h]; simp)]
theorem sub_le (l : List Ev) (S : Nat → Bool) : ∀ j, (sub l S j).length ≤ j
  | 0 => Nat.le_refl _
  | j + 1 => by
    have := sub_le l S j
    cases h : S j with
    | true => rw [sub_yes h, List.length_append]; simp; omega
    | false => rw [sub_no h]; omega
theorem sub_take (l : List Ev) (S : Nat → Bool) (k : Nat) : ∀ j, k ≤ j → (sub l S j).take (sub l S k).length = sub l S k ∧ (sub l S k).length ≤ (sub l S j).length
  | 0, h => by have : k = 0 := by omega
               subst this; exact ⟨by simp, Nat.le_refl _⟩
  | j + 1, h => by
    by_cases e : k = j + 1
    · subst e; exact ⟨by rw [List.take_length], Nat.le_refl _⟩
    · obtain ⟨h1, h2⟩ := sub_take l S k j (by omega)
      cases hs : S j with
      | true =>
        rw [sub_yes hs, List.take_append_of_le_length h2]
        exact ⟨h1, by rw [List.length_append]; omega⟩
      | false => rw [sub_no hs]; exact ⟨h1, h2⟩
theorem sub_ev {l : List Ev} {S : Nat → Bool} {k j : Nat} (hk : k < j) (hs : S k = true) : ev (sub l S j) (sub l S k).length = ev l k ∧ (sub l S k).length < (sub l S j).length := by
  obtain ⟨h1, h2⟩ := sub_take l S (k + 1) j (by omega)
  rw [sub_yes hs, List.length_append] at h1 h2
  simp only [List.length_singleton] at h1 h2
  refine ⟨?_, by omega⟩
  have e := congrArg (fun x : List Ev => x.getD (sub l S k).length noEv) h1
  simp only [List.getD_eq_getElem?_getD] at e
  rw [List.getElem?_take, if_pos (by omega)] at e
  show (sub l S j).getD _ _ = _
  rw [List.getD_eq_getElem?_getD, e]
  simp
theorem sub_pos (l : List Ev) (S : Nat → Bool) : ∀ j q, q < (sub l S j).length → ∃ k, k < j ∧ S k = true ∧ (sub l S k).length = q
  | 0, q, h => by simp [sub] at h
  | j + 1, q, h => by
    cases hs : S j with
    | true =>
      rw [sub_yes hs, List.length_append] at h
      simp only [List.length_singleton] at h
      by_cases e : q = (sub l S j).length
      · exact ⟨j, by omega, hs, e.symm⟩
      · obtain ⟨k, h1, h2⟩ := sub_pos l S j q (by omega); exact ⟨k, by omega, h2⟩
    | false =>
      rw [sub_no hs] at h
      obtain ⟨k, h1, h2⟩ := sub_pos l S j q h; exact ⟨k, by omega, h2⟩

structure SubInv (l : List Ev) (S : Nat → Bool) (j : Nat) : Prop where
  valid : Valid (sub l S j)
  sends : ∀ m, m ∈ sends (sub l S j) ↔ ∃ s, s < j ∧ S s = true ∧ (ev l s).kind = 2 ∧ (ev l s).msg = m
  takes : ∀ m, m ∈ takes (sub l S j) → m ∈ takes (l.take j)
  now : ∀ p, (∀ k, k < j → (ev l k).place = p → S k = true) → (stOf (sub l S j)).now p = (stOf (l.take j)).now p
  way : ∀ m, (∃ s, s < j ∧ S s = true ∧ (ev l s).kind = 2 ∧ (ev l s).msg = m) → (stOf (sub l S j)).way m = (stOf (l.take j)).way m
theorem takes_succ {l : List Ev} {j m : Nat} (h : j < l.length) (hm : m ∈ takes (l.take j)) : m ∈ takes (l.take (j + 1)) := by
  rw [take_succ l j h, takes_snoc]; split
  · exact List.mem_append_left _ hm
  · exact hm
theorem clk_same {l : List Ev} {S : Nat → Bool} (hv : Valid l) (hc : Closed l S) {j : Nat} (hj : j < l.length) (hs : S j = true) (h : SubInv l S j) : (stOf (sub l S j)).clk (ev l j) = clockAt l j := by
  have hp : (stOf (sub l S j)).pre (ev l j) = (stOf (l.take j)).pre (ev l j) := by
    have hn := h.now (ev l j).place (fun k hk e => hc k j ⟨hk, hj, .inl e⟩ hs)
    unfold St.pre
    by_cases h3 : (ev l j).kind = 3
    · rw [if_pos h3, if_pos h3, hn]
      obtain ⟨s, h1, h2, h4⟩ := (mem_sends _ _).1 ((hv j hj).took1 h3)
      have h1' : s < j := by simp at h1; omega
      have es : (l.take j).getD s noEv = ev l s := by simp [ev, List.getD_eq_getElem?_getD, h1']
      rw [es] at h2 h4
      rw [h.way (ev l j).msg ⟨s, h1', hc s j ⟨h1', hj, .inr ⟨h2, h3, h4⟩⟩ hs, h2, h4⟩]
    · rw [if_neg h3, if_neg h3, hn]
  unfold clockAt St.clk
  rw [hp]
theorem sub_inv {l : List Ev} {S : Nat → Bool} (hv : Valid l) (hc : Closed l S) : ∀ j, j ≤ l.length → SubInv l S j
  | 0, _ => ⟨valid_nil, fun m => ⟨fun h => by simp [sub, Ev.sends] at h, fun ⟨s, h, _⟩ => absurd h (Nat.not_lt_zero s)⟩, fun m h => by simp [sub, Ev.takes] at h, fun p _ => rfl, fun m ⟨s, h, _⟩ => absurd h (Nat.not_lt_zero s)⟩
  | j + 1, hj => by
    have ih := sub_inv hv hc j (by omega)
    have hjl : j < l.length := by omega
    have hft := hv j hjl
    cases hs : S j with
    | false =>
      refine ⟨by rw [sub_no hs]; exact ih.valid, fun m => ?_, fun m h => ?_, fun p h => ?_, fun m h => ?_⟩
      · rw [sub_no hs, ih.sends m]
        constructor
        · rintro ⟨s, h1, h⟩; exact ⟨s, by omega, h⟩
        · rintro ⟨s, h1, h2, h3⟩
          refine ⟨s, ?_, h2, h3⟩
          by_cases e : s = j
          · subst e; rw [hs] at h2; cases h2
          · omega
      · rw [sub_no hs] at h; exact takes_succ hjl (ih.takes m h)
      · have hp : p ≠ (ev l j).place := fun e => by have := h j (by omega) e.symm; rw [hs] at this; cases this
        have e : (stOf (l.take (j + 1))).now p = (stOf (l.take j)).now p := by rw [st_succ l j hjl]; show (if p = _ then _ else _) = _; rw [if_neg hp]
        rw [sub_no hs, e]; exact ih.now p (fun k hk => h k (by omega))
      · obtain ⟨s, h1, h2, h3, h4⟩ := h
        have hsj : s ≠ j := fun e => by subst e; rw [hs] at h2; cases h2
        have hno : ¬ ((ev l j).kind = 2 ∧ m = (ev l j).msg) := fun ⟨a, b⟩ => hsj (send_one hv (a := s) (b := j) (by omega) hjl h3 a (h4.trans b))
        have e : (stOf (l.take (j + 1))).way m = (stOf (l.take j)).way m := by rw [st_succ l j hjl]; show (if _ ∧ _ then _ else _) = _; rw [if_neg hno]
        rw [sub_no hs, e]; exact ih.way m ⟨s, by omega, h2, h3, h4⟩
    | true =>
      have hck := clk_same hv hc hjl hs ih
      have hfit : Fits (sub l S j) (ev l j) := by
        refine ⟨hft.k1, hft.k3, hft.p8, hft.m, fun k hm => ?_, fun k => ?_, fun k hm => hft.took2 k (ih.takes _ hm)⟩
        · obtain ⟨s, h1, _, h3, h4⟩ := (ih.sends _).1 hm
          have := send_one hv (a := s) (b := j) (by omega) hjl h3 k h4
          omega
        · obtain ⟨s, h1, h2, h4⟩ := (mem_sends _ _).1 (hft.took1 k)
          have h1' : s < j := by simp at h1; omega
          have es : (l.take j).getD s noEv = ev l s := by simp [ev, List.getD_eq_getElem?_getD, h1']
          rw [es] at h2 h4
          exact (ih.sends _).2 ⟨s, h1', hc s j ⟨h1', hjl, .inr ⟨h2, k, h4⟩⟩ hs, h2, h4⟩
      refine ⟨by rw [sub_yes hs]; exact valid_snoc ih.valid hfit, fun m => ?_, fun m h => ?_, fun p h => ?_, fun m h => ?_⟩
      · rw [sub_yes hs, sends_snoc]
        by_cases k2 : (ev l j).kind = 2
        · rw [if_pos k2, List.mem_append, ih.sends m, List.mem_singleton]
          constructor
          · rintro (⟨s, h1, h⟩ | e)
            · exact ⟨s, by omega, h⟩
            · exact ⟨j, by omega, hs, k2, e.symm⟩
          · rintro ⟨s, h1, h2, h3, h4⟩
            by_cases e : s = j
            · subst e; exact .inr h4.symm
            · exact .inl ⟨s, by omega, h2, h3, h4⟩
        · rw [if_neg k2, ih.sends m]
          constructor
          · rintro ⟨s, h1, h⟩; exact ⟨s, by omega, h⟩
          · rintro ⟨s, h1, h2, h3, h4⟩
            refine ⟨s, ?_, h2, h3, h4⟩
            by_cases e : s = j
            · subst e; exact absurd h3 k2
            · omega
      · rw [sub_yes hs, takes_snoc] at h
        rw [take_succ l j hjl, takes_snoc]
        by_cases k3 : (ev l j).kind = 3
        · rw [if_pos k3] at h
          rw [if_pos k3]
          rcases List.mem_append.1 h with h | h
          · exact List.mem_append_left _ (ih.takes m h)
          · exact List.mem_append_right _ h
        · rw [if_neg k3] at h
          rw [if_neg k3]; exact ih.takes m h
      · rw [sub_yes hs, stOf_snoc, st_succ l j hjl]
        show (if p = (ev l j).place then (stOf (sub l S j)).clk (ev l j) else (stOf (sub l S j)).now p) = (if p = (ev l j).place then (stOf (l.take j)).clk (ev l j) else (stOf (l.take j)).now p)
        by_cases e : p = (ev l j).place
        · rw [if_pos e, if_pos e]; exact hck
        · rw [if_neg e, if_neg e]; exact ih.now p (fun k hk => h k (by omega))
      · rw [sub_yes hs, stOf_snoc, st_succ l j hjl]
        show (if (ev l j).kind = 2 ∧ m = (ev l j).msg then (stOf (sub l S j)).clk (ev l j) else (stOf (sub l S j)).way m) = (if (ev l j).kind = 2 ∧ m = (ev l j).msg then (stOf (l.take j)).clk (ev l j) else (stOf (l.take j)).way m)
        by_cases e : (ev l j).kind = 2 ∧ m = (ev l j).msg
        · rw [if_pos e, if_pos e]; exact hck
        · rw [if_neg e, if_neg e]
          obtain ⟨s, h1, h2, h3, h4⟩ := h
          have hsj : s ≠ j := fun q => by subst q; exact e ⟨h3, h4.symm⟩
          exact ih.way m ⟨s, by omega, h2, h3, h4⟩
/-- The clocks that they had. -/
theorem sub_clock {l : List Ev} {S : Nat → Bool} (hv : Valid l) (hc : Closed l S) {k j : Nat} (hk : k < j) (hj : j ≤ l.length) (hs : S k = true) : clockAt (sub l S j) (sub l S k).length = clockAt l k := by
  have h := (sub_ev (l := l) hk hs).1
  unfold clockAt
  rw [(sub_take l S k j (by omega)).1]
  show (stOf (sub l S k)).clk (ev (sub l S j) _) = _
  rw [h]
  exact clk_same hv hc (by omega) hs (sub_inv hv hc k (by omega))

/-- What led to event i, and it. -/
def ledS (l : List Ev) (i : Nat) (k : Nat) : Bool := decide (k = i) || aheadL l k i
def ledL (l : List Ev) (i : Nat) : List Ev := sub l (ledS l i) (i + 1)
theorem led_in {l : List Ev} (hv : Valid l) {i k : Nat} (hi : i < l.length) (hk : k < l.length) : ledS l i k = true ↔ Th.Reach l k i := by
  unfold ledS
  rw [Bool.or_eq_true, decide_eq_true_eq, ahead_iff hv hk hi]
  constructor
  · rintro (rfl | h)
    · exact .refl
    · exact h.2
  · intro h
    by_cases e : k = i
    · exact .inl e
    · exact .inr ⟨e, h⟩
theorem led_closed {l : List Ev} (hv : Valid l) {i : Nat} (hi : i < l.length) : Closed l (ledS l i) := fun a b hs hb => by
  have hb' := (led_in hv hi hs.2.1).1 hb
  exact (led_in hv hi (by have := hs.1; have := hs.2.1; omega)).2 ((Th.Reach.step .refl hs).trans hb')
theorem led_valid {l : List Ev} (hv : Valid l) {i : Nat} (hi : i < l.length) : Valid (ledL l i) := (sub_inv hv (led_closed hv hi) (i + 1) (by omega)).valid
theorem led_last (l : List Ev) (i : Nat) : (ledL l i).length = (sub l (ledS l i) i).length + 1 := by
  unfold ledL
  rw [sub_yes (by simp [ledS]), List.length_append]; rfl
theorem led_clock {l : List Ev} (hv : Valid l) {i : Nat} (hi : i < l.length) : clockAt (ledL l i) ((ledL l i).length - 1) = clockAt l i := by
  rw [led_last, Nat.add_sub_cancel]
  exact sub_clock hv (led_closed hv hi) (Nat.lt_succ_self i) (by omega) (by simp [ledS])
theorem sub_all (l : List Ev) (S : Nat → Bool) : ∀ j, j ≤ l.length → (∀ k, k < j → S k = true) → sub l S j = l.take j
  | 0, _, _ => by simp [sub]
  | j + 1, hj, h => by
    rw [sub_yes (h j (by omega)), sub_all l S j (by omega) (fun k hk => h k (by omega)), take_succ l j (by omega)]
/-- All of what led to an event led to it. -/
theorem led_again {l : List Ev} (hv : Valid l) {i : Nat} (hi : i < l.length) : ledL (ledL l i) ((ledL l i).length - 1) = ledL l i := by
  have hlast := led_last l i
  have hall : ∀ q, q < (ledL l i).length → ledS (ledL l i) ((ledL l i).length - 1) q = true := fun q hq => by
    by_cases e : q = (ledL l i).length - 1
    · subst e; simp [ledS]
    · obtain ⟨k, h1, h2, h3⟩ := sub_pos l (ledS l i) (i + 1) q hq
      have hck := sub_clock hv (led_closed hv hi) h1 (by omega) h2
      rw [h3] at hck
      have hki : k ≠ i := fun x => by subst x; apply e; rw [hlast, ← h3]; rfl
      have ha : aheadL l k i = true := by
        simp only [ledS, Bool.or_eq_true, decide_eq_true_eq] at h2
        exact h2.resolve_left hki
      unfold ledS aheadL
      have hl := led_clock hv hi
      rw [hl, show clockAt (ledL l i) q = clockAt l k from hck]
      have : lessL (clockAt l k) (clockAt l i) = true := ha
      rw [this]; simp
  have h1 : ledL (ledL l i) ((ledL l i).length - 1) = (ledL l i).take ((ledL l i).length - 1 + 1) := sub_all _ _ _ (by omega) (fun k hk => hall k (by omega))
  rw [h1, List.take_of_length_le (by omega)]
end Go.Proofs.Ytcdladnbcamgjaa.LdT
