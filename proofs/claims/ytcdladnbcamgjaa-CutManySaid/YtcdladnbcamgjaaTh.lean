/- The theory of the clocks: a clock is less than another one just if there is a way, event by event and message by message. -/
import Derived.Test.YtcdladnbcamgjaaCW
namespace Go.Proofs.Ytcdladnbcamgjaa.Th
open Go.Proofs.Ytcdladnbcamgjaa.Ev Go.Proofs.Ytcdladnbcamgjaa.CL Go.Proofs.Ytcdladnbcamgjaa.CW

abbrev ev (l : List Ev) (i : Nat) : Ev := l.getD i noEv
/-- One event stands ahead of another one of its place, or sends what the other one takes. -/
def Step (l : List Ev) (a b : Nat) : Prop := a < b ∧ b < l.length ∧ ((ev l a).place = (ev l b).place ∨ ((ev l a).kind = 2 ∧ (ev l b).kind = 3 ∧ (ev l a).msg = (ev l b).msg))
/-- A way. -/
inductive Reach (l : List Ev) (i : Nat) : Nat → Prop
  | refl : Reach l i i
  | step {a b : Nat} : Reach l i a → Step l a b → Reach l i b

theorem Reach.le {l : List Ev} {i k : Nat} (h : Reach l i k) : i ≤ k := by
  induction h with
  | refl => exact Nat.le_refl _
  | step _ s ih => have := s.1; omega
theorem Reach.trans {l : List Ev} {i j k : Nat} (h : Reach l i j) (g : Reach l j k) : Reach l i k := by
  induction g with
  | refl => exact h
  | step _ s ih => exact ih.step s

def cnt (l : List Ev) (p : Nat) : Nat → Nat
  | 0 => 0
  | j + 1 => cnt l p j + if (ev l j).place = p then 1 else 0
theorem cnt_mono (l : List Ev) (p : Nat) {a b : Nat} (h : a ≤ b) : cnt l p a ≤ cnt l p b := by
  induction b with
  | zero => have : a = 0 := by omega
            subst this; exact Nat.le_refl _
  | succ b ih =>
    by_cases e : a = b + 1
    · subst e; exact Nat.le_refl _
    · have := ih (by omega); simp only [cnt]; omega
theorem cnt_none (l : List Ev) (p : Nat) {a b : Nat} (h : a ≤ b) (hn : ∀ k, a ≤ k → k < b → (ev l k).place ≠ p) : cnt l p b = cnt l p a := by
  induction b with
  | zero => have : a = 0 := by omega
            subst this; rfl
  | succ b ih =>
    by_cases e : a = b + 1
    · subst e; rfl
    · have h1 := ih (by omega) (fun k h1 h2 => hn k h1 (by omega))
      have h2 := hn b (by omega) (by omega)
      simp only [cnt, h1, if_neg h2]; omega
theorem cnt_here (l : List Ev) (i : Nat) : cnt l (ev l i).place (i + 1) = cnt l (ev l i).place i + 1 := by simp [cnt]

/-- Where the place's clock comes from. -/
def NowFrom (l : List Ev) (j q : Nat) : Prop :=
  (∃ k, k < j ∧ (ev l k).place = q ∧ (stOf (l.take j)).now q = clockAt l k ∧ ∀ k', k < k' → k' < j → (ev l k').place ≠ q) ∨
  ((stOf (l.take j)).now q = zero8 ∧ ∀ k', k' < j → (ev l k').place ≠ q)
theorem st_succ (l : List Ev) (j : Nat) (hj : j < l.length) : stOf (l.take (j + 1)) = (stOf (l.take j)).step (ev l j) := by rw [take_succ l j hj, stOf_snoc]
theorem now_from (l : List Ev) (q : Nat) : ∀ j, j ≤ l.length → NowFrom l j q
  | 0, _ => .inr ⟨by rw [List.take_zero]; rfl, fun k' h => by omega⟩
  | j + 1, hj => by
    have e : (stOf (l.take (j + 1))).now q = if q = (ev l j).place then clockAt l j else (stOf (l.take j)).now q := by rw [st_succ l j (by omega)]; rfl
    by_cases hq : q = (ev l j).place
    · exact .inl ⟨j, by omega, hq.symm, by rw [e, if_pos hq], fun k' h1 h2 => by omega⟩
    · rw [if_neg hq] at e
      rcases now_from l q j (by omega) with ⟨k, h1, h2, h3, h4⟩ | ⟨h1, h2⟩
      · refine .inl ⟨k, by omega, h2, e.trans h3, fun k' a b => ?_⟩
        by_cases hk : k' = j
        · subst hk; exact fun x => hq x.symm
        · exact h4 k' a (by omega)
      · refine .inr ⟨e.trans h1, fun k' b => ?_⟩
        by_cases hk : k' = j
        · subst hk; exact fun x => hq x.symm
        · exact h2 k' (by omega)
theorem way_from (l : List Ev) (m : Nat) : ∀ j, j ≤ l.length → m ∈ sends (l.take j) → ∃ s, s < j ∧ (ev l s).kind = 2 ∧ (ev l s).msg = m ∧ (stOf (l.take j)).way m = clockAt l s
  | 0, _, h => by simp [sends] at h
  | j + 1, hj, h => by
    have e : (stOf (l.take (j + 1))).way m = if (ev l j).kind = 2 ∧ m = (ev l j).msg then clockAt l j else (stOf (l.take j)).way m := by rw [st_succ l j (by omega)]; rfl
    by_cases hq : (ev l j).kind = 2 ∧ m = (ev l j).msg
    · exact ⟨j, by omega, hq.1, hq.2.symm, by rw [e, if_pos hq]⟩
    · rw [if_neg hq] at e
      have hm : m ∈ sends (l.take j) := by
        rw [take_succ l j (by omega), sends_snoc] at h
        by_cases h2 : (l.getD j noEv).kind = 2
        · rw [if_pos h2] at h
          rcases List.mem_append.1 h with h | h
          · exact h
          · exact absurd ⟨h2, List.mem_singleton.1 h⟩ hq
        · rw [if_neg h2] at h; exact h
      obtain ⟨s, h1, h2, h3, h4⟩ := way_from l m j (by omega) hm
      exact ⟨s, by omega, h2, h3, e.trans h4⟩

def preAt (l : List Ev) (k : Nat) : List Int := (stOf (l.take k)).pre (ev l k)
theorem pre_len {l : List Ev} (hv : Valid l) {k : Nat} (hk : k < l.length) : (preAt l k).length = 8 := (pre_fine (sound_take hv k (by omega)) (hv k hk)).len
theorem clock_get {l : List Ev} (hv : Valid l) {k : Nat} (hk : k < l.length) (p : Nat) : (clockAt l k).getD p 0 = (preAt l k).getD p 0 + if (ev l k).place = p then 1 else 0 := by
  have h8 : (ev l k).place < 8 := (hv k hk).p8
  have hl := pre_len hv hk
  show ((preAt l k).set (ev l k).place ((preAt l k).getD (ev l k).place 0 + 1)).getD p 0 = _
  rw [getD_set _ _ _ _ (by omega)]
  by_cases e : (ev l k).place = p
  · rw [if_pos e, if_pos e, e]
  · rw [if_neg e, if_neg e]; omega
theorem clock_len {l : List Ev} (hv : Valid l) {k : Nat} (hk : k < l.length) : (clockAt l k).length = 8 := (clk_fine (sound_take hv k (by omega)) (hv k hk)).len
/-- What stands ahead of the step: the place's clock, and of one that takes the sender's too. -/
theorem pre_get {l : List Ev} (hv : Valid l) {k : Nat} (hk : k < l.length) (p : Nat) :
    ((ev l k).kind ≠ 3 ∧ (preAt l k).getD p 0 = ((stOf (l.take k)).now (ev l k).place).getD p 0) ∨
    ((ev l k).kind = 3 ∧ ∃ s, s < k ∧ (ev l s).kind = 2 ∧ (ev l s).msg = (ev l k).msg ∧ (preAt l k).getD p 0 = max (((stOf (l.take k)).now (ev l k).place).getD p 0) ((clockAt l s).getD p 0)) := by
  have hs := sound_take hv k (by omega)
  by_cases h3 : (ev l k).kind = 3
  · right
    have hm := (hv k hk).took1 h3
    obtain ⟨s, h1, h2, h4, h5⟩ := way_from l _ k (by omega) hm
    refine ⟨h3, s, h1, h2, h4, ?_⟩
    have e : preAt l k = joinL ((stOf (l.take k)).now (ev l k).place) ((stOf (l.take k)).way (ev l k).msg) := by unfold preAt St.pre; rw [if_pos h3]
    rw [e, getD_join _ _ _ (hs.now _).len (hs.way _ hm).len, h5]
  · left
    exact ⟨h3, by unfold preAt St.pre; rw [if_neg h3]⟩

theorem clock_cnt {l : List Ev} (hv : Valid l) : ∀ k, k < l.length → (∀ p, (clockAt l k).getD p 0 ≤ cnt l p (k + 1)) ∧ (clockAt l k).getD (ev l k).place 0 = cnt l (ev l k).place (k + 1) := by
  intro k
  induction k using Nat.strongRecOn with
  | ind k ih =>
    intro hk
    have hnow : ∀ p, ((stOf (l.take k)).now (ev l k).place).getD p 0 ≤ cnt l p k := fun p => by
      rcases now_from l (ev l k).place k (by omega) with ⟨k', h1, h2, h3, h4⟩ | ⟨h1, h2⟩
      · rw [h3]
        have := (ih k' h1 (by omega)).1 p
        have := cnt_mono l p (show k' + 1 ≤ k by omega)
        omega
      · rw [h1, zero_get]; omega
    have hnow2 : ((stOf (l.take k)).now (ev l k).place).getD (ev l k).place 0 = cnt l (ev l k).place k := by
      rcases now_from l (ev l k).place k (by omega) with ⟨k', h1, h2, h3, h4⟩ | ⟨h1, h2⟩
      · rw [h3]
        have := (ih k' h1 (by omega)).2
        rw [h2] at this
        rw [this, cnt_none l _ (show k' + 1 ≤ k by omega) (fun x a b => h4 x (by omega) b)]
      · rw [h1, zero_get, cnt_none l _ (Nat.zero_le k) (fun x _ b => h2 x b)]; rfl
    have hpre : ∀ p, (preAt l k).getD p 0 ≤ cnt l p k := fun p => by
      rcases pre_get hv hk p with ⟨_, e⟩ | ⟨_, s, h1, _, _, e⟩
      · rw [e]; exact hnow p
      · have a := (ih s h1 (by omega)).1 p
        have b := cnt_mono l p (show s + 1 ≤ k by omega)
        have := hnow p
        rw [e]; omega
    have hpre2 : (preAt l k).getD (ev l k).place 0 = cnt l (ev l k).place k := by
      have a := hpre (ev l k).place
      rcases pre_get hv hk (ev l k).place with ⟨_, e⟩ | ⟨_, s, h1, _, _, e⟩
      · rw [e]; exact hnow2
      · rw [e] at a ⊢; rw [hnow2] at a ⊢; omega
    refine ⟨fun p => ?_, ?_⟩
    · rw [clock_get hv hk p]
      have := hpre p
      simp only [cnt]
      split <;> omega
    · rw [clock_get hv hk, if_pos rfl, hpre2, cnt_here]; omega

theorem clock_low {l : List Ev} (hv : Valid l) {k : Nat} (hk : k < l.length) (p : Nat) : 0 ≤ (clockAt l k).getD p 0 := (clk_fine (sound_take hv k (by omega)) (hv k hk)).low p
theorem send_one {l : List Ev} (hv : Valid l) {a b : Nat} (ha : a < l.length) (hb : b < l.length) (ka : (ev l a).kind = 2) (kb : (ev l b).kind = 2) (hm : (ev l a).msg = (ev l b).msg) : a = b := by
  have key : ∀ x y, x < y → y < l.length → (ev l x).kind = 2 → (ev l y).kind = 2 → (ev l x).msg = (ev l y).msg → False := fun x y hxy hy kx ky h => by
    refine (hv y hy).sent ky ?_
    rw [mem_sends]
    refine ⟨x, by simp; omega, ?_, ?_⟩
    · rw [show (l.take y).getD x noEv = ev l x by simp [ev, List.getD_eq_getElem?_getD, hxy]]; exact kx
    · rw [show (l.take y).getD x noEv = ev l x by simp [ev, List.getD_eq_getElem?_getD, hxy]]; exact h
  rcases Nat.lt_trichotomy a b with h | h | h
  · exact (key a b h hb ka kb hm).elim
  · exact h
  · exact (key b a h ha kb ka hm.symm).elim

/-- Along a step no clock falls. -/
theorem step_le {l : List Ev} (hv : Valid l) : ∀ b a, Step l a b → ∀ p, (clockAt l a).getD p 0 ≤ (clockAt l b).getD p 0 := by
  intro b
  induction b using Nat.strongRecOn with
  | ind b ih =>
    intro a ⟨hab, hb, hs⟩ p
    have hpc : (preAt l b).getD p 0 ≤ (clockAt l b).getD p 0 := by rw [clock_get hv hb p]; split <;> omega
    have hnp : ((stOf (l.take b)).now (ev l b).place).getD p 0 ≤ (preAt l b).getD p 0 := by
      rcases pre_get hv hb p with ⟨_, e⟩ | ⟨_, s, _, _, _, e⟩ <;> rw [e] <;> omega
    rcases hs with hs | ⟨ka, kb, hm⟩
    · have ha : (clockAt l a).getD p 0 ≤ ((stOf (l.take b)).now (ev l b).place).getD p 0 := by
        rcases now_from l (ev l b).place b (by omega) with ⟨k', h1, h2, h3, h4⟩ | ⟨h1, h2⟩
        · rw [h3]
          by_cases e : a = k'
          · rw [e]; exact Int.le_refl _
          · have hlt : a < k' := by
              rcases Nat.lt_trichotomy a k' with h | h | h
              · exact h
              · exact absurd h e
              · exact absurd hs (h4 a h hab)
            exact ih k' h1 a ⟨hlt, by omega, .inl (hs.trans h2.symm)⟩ p
        · exact absurd hs (h2 a hab)
      omega
    · rcases pre_get hv hb p with ⟨h, _⟩ | ⟨_, s, h1, h2, h3, e⟩
      · exact absurd kb h
      · have : s = a := send_one hv (by omega) (by omega) h2 ka (h3.trans hm.symm)
        subst this
        omega
theorem reach_le {l : List Ev} (hv : Valid l) {i k : Nat} (h : Reach l i k) (p : Nat) : (clockAt l i).getD p 0 ≤ (clockAt l k).getD p 0 := by
  induction h with
  | refl => exact Int.le_refl _
  | step _ s ih => have := step_le hv _ _ s p; omega

/-- Who has as much of an event's place as the event itself is reached by it. -/
theorem key {l : List Ev} (hv : Valid l) (i : Nat) (_hi : i < l.length) : ∀ k, k < l.length → (cnt l (ev l i).place (i + 1) : Int) ≤ (clockAt l k).getD (ev l i).place 0 → Reach l i k := by
  intro k
  induction k using Nat.strongRecOn with
  | ind k ih =>
    intro hk h
    have hpos := cnt_here l i
    by_cases hp : (ev l k).place = (ev l i).place
    · have e := (clock_cnt hv k hk).2
      rw [hp] at e
      rw [e] at h
      have hik : i ≤ k := by
        rcases Nat.lt_or_ge k i with hlt | hge
        · have := cnt_mono l (ev l i).place (show k + 1 ≤ i by omega)
          omega
        · exact hge
      by_cases e2 : i = k
      · subst e2; exact .refl
      · exact .step .refl ⟨by omega, hk, .inl hp.symm⟩
    · rw [clock_get hv hk, if_neg hp] at h
      have hfrom : (cnt l (ev l i).place (i + 1) : Int) ≤ ((stOf (l.take k)).now (ev l k).place).getD (ev l i).place 0 → Reach l i k := fun h => by
        rcases now_from l (ev l k).place k (by omega) with ⟨k', h1, h2, h3, _⟩ | ⟨h1, _⟩
        · rw [h3] at h
          exact (ih k' h1 (by omega) h).step ⟨h1, hk, .inl h2⟩
        · rw [h1, zero_get] at h; omega
      rcases pre_get hv hk (ev l i).place with ⟨_, e⟩ | ⟨h3, s, h1, h2, h4, e⟩
      · rw [e] at h; exact hfrom (by omega)
      · rw [e] at h
        by_cases hs : (cnt l (ev l i).place (i + 1) : Int) ≤ (clockAt l s).getD (ev l i).place 0
        · exact (ih s h1 (by omega) hs).step ⟨h1, hk, .inr ⟨h2, h3, h4⟩⟩
        · exact hfrom (by omega)

def aheadL (l : List Ev) (i k : Nat) : Bool := lessL (clockAt l i) (clockAt l k)
theorem ahead_iff {l : List Ev} (hv : Valid l) {i k : Nat} (hi : i < l.length) (hk : k < l.length) : aheadL l i k = true ↔ i ≠ k ∧ Reach l i k := by
  unfold aheadL
  rw [lessL_iff]
  constructor
  · rintro ⟨h1, p, h2⟩
    refine ⟨fun e => by subst e; exact absurd h2 (Int.lt_irrefl _), key hv i hi k hk ?_⟩
    have := h1 (ev l i).place
    rw [← (clock_cnt hv i hi).2]; exact this
  · rintro ⟨hne, hr⟩
    refine ⟨fun p => reach_le hv hr p, (ev l k).place, ?_⟩
    have hle := reach_le hv hr (ev l k).place
    rcases Int.lt_or_le ((clockAt l i).getD (ev l k).place 0) ((clockAt l k).getD (ev l k).place 0) with h | h
    · exact h
    · have e := (clock_cnt hv k hk).2
      have := (key hv k hk i hi (by rw [← e]; exact h)).le
      have := hr.le
      omega
theorem ahead_lt {l : List Ev} (hv : Valid l) {i k : Nat} (hi : i < l.length) (hk : k < l.length) (h : aheadL l i k = true) : i < k := by
  have := (ahead_iff hv hi hk).1 h
  have := this.2.le
  omega
theorem ahead_trans {l : List Ev} (hv : Valid l) {i j k : Nat} (hi : i < l.length) (hj : j < l.length) (hk : k < l.length) (h : aheadL l i j = true) (g : aheadL l j k = true) : aheadL l i k = true := by
  have a := ahead_lt hv hi hj h
  have b := ahead_lt hv hj hk g
  exact (ahead_iff hv hi hk).2 ⟨by omega, ((ahead_iff hv hi hj).1 h).2.trans ((ahead_iff hv hj hk).1 g).2⟩
theorem ahead_place {l : List Ev} (hv : Valid l) {i k : Nat} (hi : i < l.length) (hk : k < l.length) (hp : (ev l i).place = (ev l k).place) : aheadL l i k = decide (i < k) := by
  by_cases h : i < k
  · rw [decide_eq_true h]; exact (ahead_iff hv hi hk).2 ⟨by omega, .step .refl ⟨h, hk, .inl hp⟩⟩
  · rw [decide_eq_false h, Bool.eq_false_iff]; exact fun q => h (ahead_lt hv hi hk q)
end Go.Proofs.Ytcdladnbcamgjaa.Th
