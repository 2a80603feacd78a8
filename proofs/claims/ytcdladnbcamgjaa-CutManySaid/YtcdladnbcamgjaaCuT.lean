/- The theory of the cuts: the least whole cut above one, the lattice, and what one event more does. -/
import Derived.Test.YtcdladnbcamgjaaCu
namespace Go.Proofs.Ytcdladnbcamgjaa.CuT
open Go.Proofs.Ytcdladnbcamgjaa.Ev Go.Proofs.Ytcdladnbcamgjaa.CL Go.Proofs.Ytcdladnbcamgjaa.CW Go.Proofs.Ytcdladnbcamgjaa.Th Go.Proofs.Ytcdladnbcamgjaa.Cu

/-- A cut: of each place no more than it has. -/
structure VCut (l : List Ev) (c : List Int) : Prop where
  len : c.length = 8
  low : ∀ p, p < 8 → 0 ≤ c.getD p 0
  high : ∀ p, p < 8 → c.getD p 0 ≤ ((cnt l p l.length : Nat) : Int)
def Le (c d : List Int) : Prop := ∀ p, p < 8 → c.getD p 0 ≤ d.getD p 0
theorem Le.refl (c : List Int) : Le c c := fun _ _ => Int.le_refl _
theorem Le.trans {a b c : List Int} (h : Le a b) (g : Le b c) : Le a c := fun p hp => Int.le_trans (h p hp) (g p hp)
theorem ext8 {c d : List Int} (hc : c.length = 8) (hd : d.length = 8) (h : ∀ p, p < 8 → c.getD p 0 = d.getD p 0) : c = d := by
  refine List.ext_getElem (by omega) (fun i h1 h2 => ?_)
  have := h i (by omega)
  simpa [List.getD_eq_getElem?_getD, h1, h2] using this
theorem Le.anti {c d : List Int} (hc : c.length = 8) (hd : d.length = 8) (h : Le c d) (g : Le d c) : c = d :=
  ext8 hc hd (fun p hp => Int.le_antisymm (h p hp) (g p hp))

theorem pl8 {l : List Ev} (hv : Valid l) {k : Nat} (hk : k < l.length) : (ev l k).place < 8 := (hv k hk).p8
theorem inC_iff (l : List Ev) (c : List Int) (k : Nat) : inC l c k = true ↔ ((cnt l (ev l k).place (k + 1) : Nat) : Int) ≤ c.getD (ev l k).place 0 := by unfold inC; rw [decide_eq_true_eq]
theorem inC_mono {l : List Ev} (hv : Valid l) {c d : List Int} (h : Le c d) {k : Nat} (hk : k < l.length) (hc : inC l c k = true) : inC l d k = true := by
  rw [inC_iff] at hc ⊢
  have := h (ev l k).place (pl8 hv hk)
  omega
/-- The event of a place that has this number. -/
theorem nth (l : List Ev) (p v : Nat) (hv : 1 ≤ v) : ∀ j, v ≤ cnt l p j → ∃ k, k < j ∧ (ev l k).place = p ∧ cnt l p (k + 1) = v
  | 0, h => by simp only [cnt] at h; omega
  | j + 1, h => by
    by_cases h2 : v ≤ cnt l p j
    · obtain ⟨k, h3, h4⟩ := nth l p v hv j h2; exact ⟨k, by omega, h4⟩
    · have e : cnt l p (j + 1) = cnt l p j + if (ev l j).place = p then 1 else 0 := rfl
      by_cases h3 : (ev l j).place = p
      · rw [if_pos h3] at e; exact ⟨j, by omega, h3, by omega⟩
      · rw [if_neg h3] at e; omega
/-- A whole cut has all that led to what is in it. -/
theorem whole_step {l : List Ev} {c : List Int} (h : Whole l c) {a b : Nat} (hs : Step l a b) (hb : inC l c b = true) : inC l c a = true := by
  obtain ⟨hab, hbl, h1 | ⟨h1, h2, h3⟩⟩ := hs
  · rw [inC_iff] at hb ⊢
    rw [h1]
    have := cnt_mono l (ev l b).place (show a + 1 ≤ b + 1 by omega)
    omega
  · exact h a b hab hbl h1 h2 h3 hb
theorem whole_reach {l : List Ev} {c : List Int} (h : Whole l c) {a b : Nat} (hr : Th.Reach l a b) (hb : inC l c b = true) : inC l c a = true := by
  induction hr with
  | refl => exact hb
  | step _ s ih => exact ih (whole_step h s hb)
theorem msg_step {l : List Ev} {s k : Nat} (h1 : s < k) (h2 : k < l.length) (h3 : (ev l s).kind = 2) (h4 : (ev l k).kind = 3) (h5 : (ev l s).msg = (ev l k).msg) : Step l s k := ⟨h1, h2, .inr ⟨h3, h4, h5⟩⟩

/-- The least whole cut above one: the join of the clocks of all that is in it. -/
def leastL (l : List Ev) (c : List Int) : Nat → List Int
  | 0 => zero8
  | j + 1 => if inC l c j = true then joinL (leastL l c j) (clockAt l j) else leastL l c j
theorem least_len {l : List Ev} (hv : Valid l) (c : List Int) : ∀ j, j ≤ l.length → (leastL l c j).length = 8
  | 0, _ => rfl
  | j + 1, h => by
    have := least_len hv c j (by omega)
    have := clock_len hv (show j < l.length by omega)
    unfold leastL
    split
    · rw [joinL_length]; omega
    · assumption
theorem least_succ {l : List Ev} (hv : Valid l) (c : List Int) (j : Nat) (h : j < l.length) (p : Nat) :
    (leastL l c (j + 1)).getD p 0 = if inC l c j = true then max ((leastL l c j).getD p 0) ((clockAt l j).getD p 0) else (leastL l c j).getD p 0 := by
  show (if inC l c j = true then joinL (leastL l c j) (clockAt l j) else leastL l c j).getD p 0 = _
  split
  · rw [getD_join _ _ _ (least_len hv c j (by omega)) (clock_len hv h)]
  · rfl
theorem least_from {l : List Ev} (hv : Valid l) (c : List Int) (p : Nat) : ∀ j, j ≤ l.length → (∃ k, k < j ∧ inC l c k = true ∧ (leastL l c j).getD p 0 = (clockAt l k).getD p 0) ∨ (leastL l c j).getD p 0 = 0
  | 0, _ => .inr (zero_get p)
  | j + 1, h => by
    rw [least_succ hv c j (by omega) p]
    by_cases hi : inC l c j = true
    · rw [if_pos hi]
      by_cases hm : (leastL l c j).getD p 0 ≤ (clockAt l j).getD p 0
      · exact .inl ⟨j, by omega, hi, by omega⟩
      · rcases least_from hv c p j (by omega) with ⟨k, h1, h2, h3⟩ | h3
        · exact .inl ⟨k, by omega, h2, by omega⟩
        · right; omega
    · rw [if_neg hi]
      rcases least_from hv c p j (by omega) with ⟨k, h1, h2, h3⟩ | h3
      · exact .inl ⟨k, by omega, h2, h3⟩
      · exact .inr h3
theorem least_ge {l : List Ev} (hv : Valid l) (c : List Int) (p : Nat) : ∀ j, j ≤ l.length → ∀ k, k < j → inC l c k = true → (clockAt l k).getD p 0 ≤ (leastL l c j).getD p 0
  | 0, _ => fun k h => by omega
  | j + 1, h => fun k hk hi => by
    rw [least_succ hv c j (by omega) p]
    by_cases e : k = j
    · subst e; rw [if_pos hi]; omega
    · have := least_ge hv c p j (by omega) k (by omega) hi
      split <;> omega
theorem least_low {l : List Ev} (hv : Valid l) (c : List Int) (p : Nat) : ∀ j, j ≤ l.length → 0 ≤ (leastL l c j).getD p 0
  | 0, _ => by show 0 ≤ zero8.getD p 0; rw [zero_get]; omega
  | j + 1, h => by
    rw [least_succ hv c j (by omega) p]
    have := least_low hv c p j (by omega)
    split <;> omega
abbrev least (l : List Ev) (c : List Int) : List Int := leastL l c l.length
theorem least_vcut {l : List Ev} (hv : Valid l) (c : List Int) : VCut l (least l c) := by
  refine ⟨least_len hv c _ (Nat.le_refl _), fun p _ => least_low hv c p _ (Nat.le_refl _), fun p _ => ?_⟩
  rcases least_from hv c p l.length (Nat.le_refl _) with ⟨k, h1, h2, h3⟩ | h3
  · have a := (clock_cnt hv k h1).1 p
    have b := cnt_mono l p (show k + 1 ≤ l.length by omega)
    show (leastL l c l.length).getD p 0 ≤ _
    omega
  · show (leastL l c l.length).getD p 0 ≤ _
    omega
theorem in_least {l : List Ev} (hv : Valid l) (c : List Int) {b : Nat} (hb : b < l.length) : inC l (least l c) b = true ↔ ∃ k, k < l.length ∧ inC l c k = true ∧ Th.Reach l b k := by
  rw [inC_iff]
  constructor
  · intro h
    rcases least_from hv c (ev l b).place l.length (Nat.le_refl _) with ⟨k, h1, h2, h3⟩ | h3
    · refine ⟨k, h1, h2, key hv b hb k h1 ?_⟩
      rw [← h3]; exact h
    · have := cnt_here l b
      have h' : ((cnt l (ev l b).place (b + 1) : Nat) : Int) ≤ (leastL l c l.length).getD (ev l b).place 0 := h
      omega
  · rintro ⟨k, h1, h2, h3⟩
    have a := least_ge hv c (ev l b).place l.length (Nat.le_refl _) k h1 h2
    have b' := reach_le hv h3 (ev l b).place
    rw [(clock_cnt hv b hb).2] at b'
    show _ ≤ (leastL l c l.length).getD (ev l b).place 0
    omega
theorem least_whole {l : List Ev} (hv : Valid l) (c : List Int) : Whole l (least l c) := fun s k h1 h2 h3 h4 h5 h6 => by
  obtain ⟨x, x1, x2, x3⟩ := (in_least hv c h2).1 h6
  have hs : Step l s k := msg_step h1 h2 h3 h4 h5
  exact (in_least hv c (by omega)).2 ⟨x, x1, x2, (Th.Reach.step .refl hs).trans x3⟩
theorem least_above {l : List Ev} (hv : Valid l) {c : List Int} (hc : VCut l c) : Le c (least l c) := fun p hp => by
  have h0 := hc.low p hp
  have h1 := hc.high p hp
  by_cases hz : c.getD p 0 = 0
  · rw [hz]; exact least_low hv c p _ (Nat.le_refl _)
  · obtain ⟨k, k1, k2, k3⟩ := nth l p (c.getD p 0).toNat (by omega) l.length (by omega)
    have hin : inC l c k = true := by rw [inC_iff, k2, k3]; omega
    have := least_ge hv c p l.length (Nat.le_refl _) k k1 hin
    have e := (clock_cnt hv k k1).2
    rw [k2] at e
    show _ ≤ (leastL l c l.length).getD p 0
    omega
theorem least_min {l : List Ev} (hv : Valid l) {c d : List Int} (hd : VCut l d) (hw : Whole l d) (h : Le c d) : Le (least l c) d := fun p hp => by
  show (leastL l c l.length).getD p 0 ≤ _
  rcases least_from hv c p l.length (Nat.le_refl _) with ⟨k, h1, h2, h3⟩ | h3
  · rw [h3]
    have hp0 := clock_low hv h1 p
    by_cases hz : (clockAt l k).getD p 0 = 0
    · rw [hz]; exact hd.low p hp
    · have hle := (clock_cnt hv k h1).1 p
      obtain ⟨b, b1, b2, b3⟩ := nth l p ((clockAt l k).getD p 0).toNat (by omega) (k + 1) (by omega)
      have hr : Th.Reach l b k := key hv b (by omega) k h1 (by rw [b2, b3]; omega)
      have hk : inC l d k = true := inC_mono hv h h1 h2
      have := whole_reach hw hr hk
      rw [inC_iff, b2, b3] at this
      omega
  · rw [h3]; exact hd.low p hp
/-- A cut is whole just if it is the least whole one above itself. -/
theorem whole_iff_least {l : List Ev} (hv : Valid l) {c : List Int} (hc : VCut l c) : Whole l c ↔ least l c = c := by
  constructor
  · intro h; exact Le.anti (least_vcut hv c).len hc.len (least_min hv hc h (Le.refl c)) (least_above hv hc)
  · intro h; rw [← h]; exact least_whole hv c

/-- The greatest whole cut below one. -/
structure IsMost (l : List Ev) (c m : List Int) : Prop where
  cut : VCut l m
  whole : Whole l m
  below : Le m c
  most : ∀ d, VCut l d → Whole l d → Le d c → Le d m
theorem whole_iff_most {l : List Ev} {c m : List Int} (hc : VCut l c) (hm : IsMost l c m) : Whole l c ↔ m = c := by
  constructor
  · intro h; exact Le.anti hm.cut.len hc.len hm.below (hm.most c hc h (Le.refl c))
  · intro h; rw [← h]; exact hm.whole

theorem vcut_join {l : List Ev} {a b : List Int} (ha : VCut l a) (hb : VCut l b) : VCut l (joinL a b) :=
  ⟨by rw [joinL_length, ha.len, hb.len]; rfl, fun p hp => by rw [getD_join _ _ _ ha.len hb.len]; have := ha.low p hp; omega, fun p hp => by rw [getD_join _ _ _ ha.len hb.len]; have := ha.high p hp; have := hb.high p hp; omega⟩
theorem whole_join {l : List Ev} (_hv : Valid l) {a b : List Int} (ha : VCut l a) (hb : VCut l b) (wa : Whole l a) (wb : Whole l b) : Whole l (joinL a b) := fun s k h1 h2 h3 h4 h5 h6 => by
  rw [inC_iff, getD_join _ _ _ ha.len hb.len] at h6
  by_cases hx : ((cnt l (ev l k).place (k + 1) : Nat) : Int) ≤ a.getD (ev l k).place 0
  · have := wa s k h1 h2 h3 h4 h5 ((inC_iff _ _ _).2 hx)
    rw [inC_iff] at this ⊢
    rw [getD_join _ _ _ ha.len hb.len]; omega
  · have := wb s k h1 h2 h3 h4 h5 ((inC_iff _ _ _).2 (by omega))
    rw [inC_iff] at this ⊢
    rw [getD_join _ _ _ ha.len hb.len]; omega
theorem le_join {a b : List Int} (ha : a.length = 8) (hb : b.length = 8) : Le a (joinL a b) ∧ Le b (joinL a b) :=
  ⟨fun p _ => by rw [getD_join _ _ _ ha hb]; omega, fun p _ => by rw [getD_join _ _ _ ha hb]; omega⟩
def meetL (a b : List Int) : List Int := (List.range 8).map (fun p => min (a.getD p 0) (b.getD p 0))
theorem meet_len (a b : List Int) : (meetL a b).length = 8 := by simp [meetL]
theorem meet_get (a b : List Int) (p : Nat) (hp : p < 8) : (meetL a b).getD p 0 = min (a.getD p 0) (b.getD p 0) := by
  simp only [meetL, List.getD_eq_getElem?_getD, List.getElem?_map, List.getElem?_range hp]; rfl
theorem vcut_meet {l : List Ev} {a b : List Int} (ha : VCut l a) (hb : VCut l b) : VCut l (meetL a b) :=
  ⟨meet_len a b, fun p hp => by rw [meet_get _ _ _ hp]; have := ha.low p hp; have := hb.low p hp; omega, fun p hp => by rw [meet_get _ _ _ hp]; have := ha.high p hp; omega⟩
theorem whole_meet {l : List Ev} (hv : Valid l) {a b : List Int} (wa : Whole l a) (wb : Whole l b) : Whole l (meetL a b) := fun s k h1 h2 h3 h4 h5 h6 => by
  have pk := (pl8 hv h2)
  have ps := pl8 hv (show s < l.length by omega)
  rw [inC_iff, meet_get _ _ _ pk] at h6
  have x := wa s k h1 h2 h3 h4 h5 ((inC_iff _ _ _).2 (by omega))
  have y := wb s k h1 h2 h3 h4 h5 ((inC_iff _ _ _).2 (by omega))
  rw [inC_iff] at x y ⊢
  rw [meet_get _ _ _ ps]; omega
theorem meet_le (a b : List Int) : Le (meetL a b) a ∧ Le (meetL a b) b :=
  ⟨fun p hp => by rw [meet_get _ _ _ hp]; omega, fun p hp => by rw [meet_get _ _ _ hp]; omega⟩

/-- The cut that a front of the list makes. -/
def frontC (l : List Ev) (n : Nat) : List Int := (List.range 8).map (fun p => ((cnt l p n : Nat) : Int))
theorem front_len (l : List Ev) (n : Nat) : (frontC l n).length = 8 := by simp [frontC]
theorem front_get (l : List Ev) (n p : Nat) (hp : p < 8) : (frontC l n).getD p 0 = ((cnt l p n : Nat) : Int) := by
  simp only [frontC, List.getD_eq_getElem?_getD, List.getElem?_map, List.getElem?_range hp]; rfl
theorem vcut_front (l : List Ev) (n : Nat) (hn : n ≤ l.length) : VCut l (frontC l n) :=
  ⟨front_len l n, fun p hp => by rw [front_get _ _ _ hp]; omega, fun p hp => by rw [front_get _ _ _ hp]; have := cnt_mono l p hn; omega⟩
theorem in_front {l : List Ev} (hv : Valid l) (n : Nat) {k : Nat} (hk : k < l.length) : inC l (frontC l n) k = decide (k < n) := by
  rw [Bool.eq_iff_iff, inC_iff, front_get _ _ _ (pl8 hv hk), decide_eq_true_eq]
  have h1 := cnt_here l k
  constructor
  · intro h
    rcases Nat.lt_or_ge k n with h2 | h2
    · exact h2
    · have := cnt_mono l (ev l k).place h2; omega
  · intro h
    have := cnt_mono l (ev l k).place (show k + 1 ≤ n by omega)
    omega
theorem whole_front {l : List Ev} (hv : Valid l) (n : Nat) : Whole l (frontC l n) := fun s k h1 h2 h3 h4 h5 h6 => by
  rw [in_front hv n h2, decide_eq_true_eq] at h6
  rw [in_front hv n (by omega), decide_eq_true_eq]; omega

/-- One event more, of place p. -/
def upC (c : List Int) (p : Nat) : List Int := c.set p (c.getD p 0 + 1)
theorem up_len (c : List Int) (p : Nat) : (upC c p).length = c.length := by simp [upC]
theorem up_get (c : List Int) (p q : Nat) (hp : p < c.length) : (upC c p).getD q 0 = if p = q then c.getD p 0 + 1 else c.getD q 0 := getD_set c p _ q hp
theorem vcut_up {l : List Ev} {c d : List Int} (hc : VCut l c) (hd : VCut l d) {p : Nat} (hp : p < 8) (h : c.getD p 0 < d.getD p 0) : VCut l (upC c p) := by
  refine ⟨by rw [up_len]; exact hc.len, fun q hq => ?_, fun q hq => ?_⟩
  · rw [up_get _ _ _ (by rw [hc.len]; exact hp)]; have := hc.low p hp; have := hc.low q hq; split <;> omega
  · rw [up_get _ _ _ (by rw [hc.len]; exact hp)]; have := hc.high q hq; have := hd.high p hp
    split
    · rename_i e; subst e; omega
    · omega
theorem le_up {c d : List Int} (hc : c.length = 8) {p : Nat} (hp : p < 8) (h : Le c d) (h2 : c.getD p 0 < d.getD p 0) : Le (upC c p) d := fun q hq => by
  rw [up_get _ _ _ (by omega)]
  have := h q hq
  split
  · rename_i e; subst e; omega
  · exact this
/-- From a whole cut to a greater one there is an event that may come next. -/
theorem next_event {l : List Ev} (hv : Valid l) {c d : List Int} (hc : VCut l c) (hd : VCut l d) (wc : Whole l c) (wd : Whole l d) (h : Le c d) (hne : c ≠ d) :
    ∃ p, p < 8 ∧ c.getD p 0 < d.getD p 0 ∧ Whole l (upC c p) := by
  have hex : ∃ k, k < l.length ∧ inC l d k = true ∧ inC l c k = false := by
    have hp : ∃ p, p < 8 ∧ c.getD p 0 < d.getD p 0 := by
      refine Classical.byContradiction (fun hno => hne (Le.anti hc.len hd.len h (fun p hp => ?_)))
      refine Int.not_lt.1 (fun hlt => hno ⟨p, hp, hlt⟩)
    obtain ⟨p, hp, hlt⟩ := hp
    have h0 := hc.low p hp
    have h1 := hd.high p hp
    obtain ⟨k, k1, k2, k3⟩ := nth l p (d.getD p 0).toNat (by omega) l.length (by omega)
    refine ⟨k, k1, by rw [inC_iff, k2, k3]; omega, ?_⟩
    rw [Bool.eq_false_iff]; intro hh; rw [inC_iff, k2, k3] at hh; omega
  -- the first of them
  have hmin : ∃ k, k < l.length ∧ inC l d k = true ∧ inC l c k = false ∧ ∀ j, j < k → inC l d j = true → inC l c j = true := by
    obtain ⟨k0, hk0⟩ := hex
    induction k0 using Nat.strongRecOn with
    | ind k ih =>
      by_cases hh : ∃ j, j < k ∧ inC l d j = true ∧ inC l c j = false
      · obtain ⟨j, j1, j2, j3⟩ := hh
        exact ih j j1 ⟨by omega, j2, j3⟩
      · refine ⟨k, hk0.1, hk0.2.1, hk0.2.2, fun j j1 j2 => ?_⟩
        cases hx : inC l c j with
        | true => rfl
        | false => exact absurd ⟨j, j1, j2, hx⟩ hh
  obtain ⟨k, k1, k2, k3, k4⟩ := hmin
  have p8 := (pl8 hv k1)
  have hk2 := (inC_iff l d k).1 k2
  have hk3 : ¬ ((cnt l (ev l k).place (k + 1) : Nat) : Int) ≤ c.getD (ev l k).place 0 := fun hh => by
    have := (inC_iff l c k).2 hh; rw [k3] at this; cases this
  -- all earlier ones of the place are in c
  have hprev : ((cnt l (ev l k).place k : Nat) : Int) ≤ c.getD (ev l k).place 0 := by
    have h0 := hc.low _ p8
    by_cases hz : cnt l (ev l k).place k = 0
    · omega
    · obtain ⟨j, j1, j2, j3⟩ := nth l (ev l k).place (cnt l (ev l k).place k) (by omega) k (Nat.le_refl _)
      have hd' : inC l d j = true := by
        rw [inC_iff, j2, j3]
        have := cnt_here l k
        omega
      have := (inC_iff l c j).1 (k4 j j1 hd')
      rw [j2, j3] at this; exact this
  have hval : c.getD (ev l k).place 0 + 1 = ((cnt l (ev l k).place (k + 1) : Nat) : Int) := by have := cnt_here l k; omega
  refine ⟨(ev l k).place, p8, by omega, ?_⟩
  have hup : ∀ j, j < l.length → (inC l (upC c (ev l k).place) j = true ↔ inC l c j = true ∨ j = k) := fun j hj => by
    rw [inC_iff, inC_iff, up_get _ _ _ (by rw [hc.len]; exact p8)]
    by_cases e : (ev l k).place = (ev l j).place
    · rw [if_pos e, hval, ← e]
      constructor
      · intro hh
        rcases Nat.lt_trichotomy j k with h1 | h1 | h1
        · left
          have := cnt_mono l (ev l k).place (show j + 1 ≤ k by omega)
          omega
        · exact .inr h1
        · have e2 := cnt_mono l (ev l k).place (show k + 1 ≤ j by omega)
          have e3 := cnt_here l j
          rw [← e] at e3
          omega
      · rintro (hh | rfl)
        · omega
        · omega
    · rw [if_neg e]
      constructor
      · exact .inl
      · rintro (hh | rfl)
        · exact hh
        · exact absurd rfl e
  intro s m h1 h2 h3 h4 h5 h6
  rw [hup s (by omega)]
  rcases (hup m h2).1 h6 with hm | rfl
  · exact .inl (wc s m h1 h2 h3 h4 h5 hm)
  · exact .inl (k4 s h1 (wd s m h1 h2 h3 h4 h5 k2))

/-- An event's clock is the least whole cut in which it is. -/
def aloneC (l : List Ev) (i : Nat) : List Int := (List.range 8).map (fun p => if p = (ev l i).place then ((cnt l p (i + 1) : Nat) : Int) else 0)
theorem alone_len (l : List Ev) (i : Nat) : (aloneC l i).length = 8 := by simp [aloneC]
theorem alone_get (l : List Ev) (i p : Nat) (hp : p < 8) : (aloneC l i).getD p 0 = if p = (ev l i).place then ((cnt l p (i + 1) : Nat) : Int) else 0 := by
  simp only [aloneC, List.getD_eq_getElem?_getD, List.getElem?_map, List.getElem?_range hp]; rfl
theorem vcut_alone (l : List Ev) (i : Nat) (hi : i < l.length) : VCut l (aloneC l i) :=
  ⟨alone_len l i, fun p hp => by rw [alone_get _ _ _ hp]; split <;> omega, fun p hp => by
    rw [alone_get _ _ _ hp]; have := cnt_mono l p (show i + 1 ≤ l.length by omega); split <;> omega⟩
theorem in_alone {l : List Ev} (hv : Valid l) (i k : Nat) (hk : k < l.length) : inC l (aloneC l i) k = true ↔ (ev l k).place = (ev l i).place ∧ k ≤ i := by
  rw [inC_iff, alone_get _ _ _ (pl8 hv hk)]
  have h1 := cnt_here l k
  by_cases e : (ev l k).place = (ev l i).place
  · rw [if_pos e]
    constructor
    · intro h
      refine ⟨e, ?_⟩
      rcases Nat.lt_or_ge i k with h2 | h2
      · have := cnt_mono l (ev l k).place (show i + 1 ≤ k by omega); omega
      · exact h2
    · rintro ⟨_, h⟩
      have := cnt_mono l (ev l k).place (show k + 1 ≤ i + 1 by omega); omega
  · rw [if_neg e]
    constructor
    · intro h; omega
    · intro h; exact absurd h.1 e
theorem vcut_clock {l : List Ev} (hv : Valid l) {i : Nat} (hi : i < l.length) : VCut l (clockAt l i) :=
  ⟨clock_len hv hi, fun p _ => clock_low hv hi p, fun p _ => by have := (clock_cnt hv i hi).1 p; have := cnt_mono l p (show i + 1 ≤ l.length by omega); omega⟩
theorem in_clock {l : List Ev} (hv : Valid l) {i k : Nat} (hi : i < l.length) (hk : k < l.length) : inC l (clockAt l i) k = true ↔ Th.Reach l k i := by
  rw [inC_iff]
  constructor
  · exact key hv k hk i hi
  · intro h
    have := reach_le hv h (ev l k).place
    rw [(clock_cnt hv k hk).2] at this; exact this
theorem whole_clock {l : List Ev} (hv : Valid l) {i : Nat} (hi : i < l.length) : Whole l (clockAt l i) := fun s k h1 h2 h3 h4 h5 h6 => by
  rw [in_clock hv hi h2] at h6
  rw [in_clock hv hi (by omega)]
  exact (Th.Reach.step .refl (msg_step h1 h2 h3 h4 h5)).trans h6
theorem least_alone {l : List Ev} (hv : Valid l) {i : Nat} (hi : i < l.length) : least l (aloneC l i) = clockAt l i := by
  refine Le.anti (least_vcut hv _).len (clock_len hv hi) (least_min hv (vcut_clock hv hi) (whole_clock hv hi) (fun p hp => ?_)) (fun p hp => ?_)
  · rw [alone_get _ _ _ hp]
    split
    · rename_i e; subst e; rw [(clock_cnt hv i hi).2]; exact Int.le_refl _
    · exact clock_low hv hi p
  · exact least_ge hv _ p l.length (Nat.le_refl _) i hi ((in_alone hv i i hi).2 ⟨rfl, Nat.le_refl _⟩)

theorem sum_le8 {c d : List Int} (hc : c.length = 8) (hd : d.length = 8) (h : Le c d) : c.sum ≤ d.sum := by
  match c, hc, d, hd with
  | [a0, a1, a2, a3, a4, a5, a6, a7], _, [b0, b1, b2, b3, b4, b5, b6, b7], _ =>
    have h0 := h 0 (by omega); have h1 := h 1 (by omega); have h2 := h 2 (by omega); have h3 := h 3 (by omega)
    have h4 := h 4 (by omega); have h5 := h 5 (by omega); have h6 := h 6 (by omega); have h7 := h 7 (by omega)
    simp at h0 h1 h2 h3 h4 h5 h6 h7
    simp; omega
theorem sum_lt8 {c d : List Int} (hc : c.length = 8) (hd : d.length = 8) (h : Le c d) {p : Nat} (hp : p < 8) (hlt : c.getD p 0 < d.getD p 0) : c.sum < d.sum := by
  have hle := le_up hc hp h hlt
  have := sum_le8 (by rw [up_len]; exact hc) hd hle
  have e : (upC c p).sum = c.sum + 1 := by
    match c, hc with
    | [a0, a1, a2, a3, a4, a5, a6, a7], _ =>
      rcases (show p = 0 ∨ p = 1 ∨ p = 2 ∨ p = 3 ∨ p = 4 ∨ p = 5 ∨ p = 6 ∨ p = 7 by omega) with rfl | rfl | rfl | rfl | rfl | rfl | rfl | rfl <;> simp [upC] <;> omega
  omega
theorem sum_up {c : List Int} (hc : c.length = 8) {p : Nat} (hp : p < 8) : (upC c p).sum = c.sum + 1 := by
  match c, hc with
  | [a0, a1, a2, a3, a4, a5, a6, a7], _ =>
    rcases (show p = 0 ∨ p = 1 ∨ p = 2 ∨ p = 3 ∨ p = 4 ∨ p = 5 ∨ p = 6 ∨ p = 7 by omega) with rfl | rfl | rfl | rfl | rfl | rfl | rfl | rfl <;> simp [upC] <;> omega
theorem sum_low8 {l : List Ev} {c : List Int} (hc : VCut l c) : 0 ≤ c.sum := by
  have := sum_le8 (c := zero8) (d := c) rfl hc.len (fun p hp => by
    have := hc.low p hp
    rw [zero_get]; exact this)
  simpa [zero8] using this
end Go.Proofs.Ytcdladnbcamgjaa.CuT
