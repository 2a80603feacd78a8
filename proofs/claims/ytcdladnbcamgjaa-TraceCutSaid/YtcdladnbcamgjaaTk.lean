/- trace.take and trace.Unpack in plain terms: what they read; packing an unpacked history, unpacking a packed one, and what stands before or behind one. -/
import Derived.Test.YtcdladnbcamgjaaPk
namespace Go.Proofs.Ytcdladnbcamgjaa.Tk
open Go.Proofs.Ytcdladnbcamgjaa.Ev Go.Proofs.Ytcdladnbcamgjaa.By Go.Proofs.Ytcdladnbcamgjaa.Pk

/-- One number off the front, i bytes of it read. -/
def takeG : Nat → Nat → Nat → List Nat → Option (Nat × List Nat)
  | _, _, _, [] => none
  | i, n, u, c :: r => if i = 3 ∨ (0 < i ∧ c = 0) then none else if c < 128 then some (n + u * c, r) else takeG (i + 1) (n + u * (c - 128)) (u * 128) r
def tk (xs : List Nat) : Option (Nat × List Nat) := takeG 0 0 1 xs

theorem tk_put (n : Nat) (r : List Nat) (h : n ≤ 16000) : tk (putL n ++ r) = some (n, r) := by
  unfold tk putL
  by_cases h1 : n < 128
  · rw [if_pos h1]
    show takeG 0 0 1 (n :: r) = _
    unfold takeG
    rw [if_neg (by omega), if_pos h1]
    simp
  · rw [if_neg h1, if_pos (by omega)]
    show takeG 0 0 1 ((n % 128 + 128) :: (n / 128) :: r) = _
    unfold takeG
    rw [if_neg (by omega), if_neg (by omega)]
    unfold takeG
    rw [if_neg (by omega), if_pos (by omega)]
    congr 2
    omega
theorem tk_some (xs : List Nat) (hx : ∀ x ∈ xs, x < 256) (n : Nat) (r : List Nat) (h : tk xs = some (n, r)) : xs = putL n ++ r := by
  unfold tk at h
  match xs, hx, h with
  | [], _, h => simp [takeG] at h
  | c :: q, hx, h =>
    have hc := hx c (by simp)
    unfold takeG at h
    rw [if_neg (by omega)] at h
    by_cases h1 : c < 128
    · rw [if_pos h1] at h
      obtain ⟨rfl, rfl⟩ : 0 + 1 * c = n ∧ q = r := by simpa using h
      rw [show 0 + 1 * c = c by omega, putL_small c h1]; rfl
    · rw [if_neg h1] at h
      match q, hx, h with
      | [], _, h => simp [takeG] at h
      | c' :: q, hx, h =>
        have hc' := hx c' (by simp)
        unfold takeG at h
        by_cases h2 : c' = 0
        · rw [if_pos (by omega)] at h; cases h
        · rw [if_neg (by omega)] at h
          by_cases h3 : c' < 128
          · rw [if_pos h3] at h
            obtain ⟨e1, rfl⟩ : 0 + 1 * (c - 128) + 1 * 128 * c' = n ∧ q = r := by simpa using h
            unfold putL
            rw [if_neg (by omega), if_pos (by omega)]
            have a : n % 128 + 128 = c := by omega
            have b : n / 128 = c' := by omega
            rw [a, b]; rfl
          · rw [if_neg h3] at h
            match q, hx, h with
            | [], _, h => simp [takeG] at h
            | c'' :: q, hx, h =>
              have hc'' := hx c'' (by simp)
              unfold takeG at h
              by_cases h4 : c'' = 0
              · rw [if_pos (by omega)] at h; cases h
              · rw [if_neg (by omega)] at h
                by_cases h5 : c'' < 128
                · rw [if_pos h5] at h
                  obtain ⟨e1, rfl⟩ : 0 + 1 * (c - 128) + 1 * 128 * (c' - 128) + 1 * 128 * 128 * c'' = n ∧ q = r := by simpa using h
                  unfold putL
                  rw [if_neg (by omega), if_neg (by omega)]
                  have a : n % 128 + 128 = c := by omega
                  have b : n / 128 % 128 + 128 = c' := by omega
                  have d : n / 16384 = c'' := by omega
                  rw [a, b, d]; rfl
                · rw [if_neg h5] at h
                  match q, h with
                  | [], h => simp [takeG] at h
                  | _ :: q, h => simp [takeG] at h
theorem tk_len {xs : List Nat} (hx : ∀ x ∈ xs, x < 256) {n : Nat} {r : List Nat} (h : tk xs = some (n, r)) : r.length < xs.length ∧ ∀ x ∈ r, x < 256 := by
  have e := tk_some xs hx n r h
  subst e
  have := (putL_len n).1
  exact ⟨by rw [List.length_append]; omega, fun x hm => hx x (by simp [hm])⟩
/-- A part of a number is none. -/
theorem tk_cut (n : Nat) (h : n ≤ 16000) (k : Nat) (hk : k < (putL n).length) : tk ((putL n).take k) = none := by
  unfold tk
  unfold putL at hk ⊢
  by_cases h1 : n < 128
  · rw [if_pos h1] at hk ⊢
    obtain rfl : k = 0 := by simp at hk; omega
    rfl
  · rw [if_neg h1, if_pos (by omega)] at hk ⊢
    match k, hk with
    | 0, _ => rfl
    | 1, _ =>
      show takeG 0 0 1 [n % 128 + 128] = none
      unfold takeG
      rw [if_neg (by omega), if_neg (by omega)]
      rfl
    | k + 2, hk => exact absurd hk (by simp)

/-- k events off the front. -/
def unp : Nat → List Ev → List Nat → Option (List Ev × List Nat)
  | 0, acc, xs => some (acc, xs)
  | k + 1, acc, xs => match tk xs with
    | none => none
    | some (x, r) => if x % 3 = 0 then unp k (acc ++ [⟨x / 3, 1, 0⟩]) r else match tk r with
      | none => none
      | some (m, s) => unp k (acc ++ [⟨x / 3, x % 3 + 1, m⟩]) s

theorem unp_none (k : Nat) (acc : List Ev) (xs : List Nat) (h : tk xs = none) : unp (k + 1) acc xs = none := by simp only [unp, h]
theorem unp_loc (k : Nat) (acc : List Ev) (xs : List Nat) {x : Nat} {r : List Nat} (h : tk xs = some (x, r)) (h3 : x % 3 = 0) : unp (k + 1) acc xs = unp k (acc ++ [⟨x / 3, 1, 0⟩]) r := by
  simp only [unp, h, h3, if_true]
theorem unp_msg (k : Nat) (acc : List Ev) (xs : List Nat) {x : Nat} {r : List Nat} (h : tk xs = some (x, r)) (h3 : ¬ x % 3 = 0) {m : Nat} {s : List Nat} (h2 : tk r = some (m, s)) : unp (k + 1) acc xs = unp k (acc ++ [⟨x / 3, x % 3 + 1, m⟩]) s := by
  simp only [unp, h, h3, h2, if_false]
theorem unp_half (k : Nat) (acc : List Ev) (xs : List Nat) {x : Nat} {r : List Nat} (h : tk xs = some (x, r)) (h3 : ¬ x % 3 = 0) (h2 : tk r = none) : unp (k + 1) acc xs = none := by
  simp only [unp, h, h3, h2, if_false]

def okE (e : Ev) : Prop := e.place < 8 ∧ 1 ≤ e.kind ∧ e.kind ≤ 3 ∧ (e.kind = 1 → e.msg = 0) ∧ e.msg ≤ 999

theorem unp_one (k : Nat) (acc : List Ev) (e : Ev) (r : List Nat) (h : okE e) : unp (k + 1) acc (packE e ++ r) = unp k (acc ++ [e]) r := by
  obtain ⟨h1, h2, h3, h4, h5⟩ := h
  obtain ⟨p, d, m⟩ := e
  simp only at h1 h2 h3 h4 h5
  unfold packE
  simp only [List.append_assoc]
  by_cases hd : d = 1
  · subst hd
    have hm := h4 rfl
    subst hm
    simp only [ne_eq, not_true, if_false, List.nil_append]
    rw [unp_loc _ _ _ (tk_put _ _ (by omega)) (by omega), show (3 * p + 1 - 1) / 3 = p by omega]
  · rw [if_pos hd, unp_msg _ _ _ (tk_put _ _ (by omega)) (by omega) (tk_put m r (by omega)), show (3 * p + d - 1) / 3 = p by omega, show (3 * p + d - 1) % 3 + 1 = d by omega]
theorem unp_all (l : List Ev) (hl : ∀ e ∈ l, okE e) (acc : List Ev) (r : List Nat) : unp l.length acc (l.flatMap packE ++ r) = some (acc ++ l, r) := by
  induction l generalizing acc with
  | nil => simp [unp]
  | cons e t ih =>
    rw [List.length_cons, List.flatMap_cons, List.append_assoc, unp_one _ _ _ _ (hl e (by simp)), ih (fun x hx => hl x (by simp [hx])), List.append_assoc]
    rfl
/-- What was read is what packing writes. -/
theorem unp_back (k : Nat) (acc : List Ev) (xs : List Nat) (hx : ∀ x ∈ xs, x < 256) (l : List Ev) (r : List Nat) (h : unp k acc xs = some (l, r)) : ∃ t, l = acc ++ t ∧ t.length = k ∧ xs = t.flatMap packE ++ r := by
  induction k generalizing acc xs with
  | zero =>
    obtain ⟨rfl, rfl⟩ : acc = l ∧ xs = r := by simpa [unp] using h
    exact ⟨[], by simp, rfl, by simp⟩
  | succ k ih =>
    unfold unp at h
    cases h1 : tk xs with
    | none => rw [h1] at h; cases h
    | some q =>
      obtain ⟨x, s⟩ := q
      rw [h1] at h
      simp only at h
      have e1 := tk_some xs hx x s h1
      have hs := (tk_len hx h1).2
      by_cases h3 : x % 3 = 0
      · rw [if_pos h3] at h
        obtain ⟨t, rfl, ht, hr⟩ := ih _ _ hs h
        refine ⟨⟨x / 3, 1, 0⟩ :: t, by simp, by simp [ht], ?_⟩
        rw [List.flatMap_cons, List.append_assoc, ← hr, e1]
        congr 1
        unfold packE
        simp only [ne_eq, not_true, if_false, List.append_nil]
        rw [show 3 * (x / 3) + 1 - 1 = x by omega]
      · rw [if_neg h3] at h
        cases h2 : tk s with
        | none => rw [h2] at h; cases h
        | some q =>
          obtain ⟨m, s'⟩ := q
          rw [h2] at h
          simp only at h
          have e2 := tk_some s hs m s' h2
          have hs' := (tk_len hs h2).2
          obtain ⟨t, rfl, ht, hr⟩ := ih _ _ hs' h
          refine ⟨⟨x / 3, x % 3 + 1, m⟩ :: t, by simp, by simp [ht], ?_⟩
          rw [List.flatMap_cons, List.append_assoc, ← hr, e1, e2]
          unfold packE
          simp only [ne_eq]
          rw [if_pos (by omega), List.append_assoc, show 3 * (x / 3) + (x % 3 + 1) - 1 = x by omega]
/-- Every proper part of packed events ends too soon. -/
theorem unp_cut (l : List Ev) (hl : ∀ e ∈ l, okE e) (acc : List Ev) (k : Nat) (hk : k < (l.flatMap packE).length) : unp l.length acc ((l.flatMap packE).take k) = none := by
  induction l generalizing acc k with
  | nil => simp at hk
  | cons e t ih =>
    have he := hl e (by simp)
    have hp := packE_len e
    rw [List.flatMap_cons] at hk ⊢
    rw [List.length_append] at hk
    by_cases h : (packE e).length ≤ k
    · have e1 : (packE e ++ t.flatMap packE).take k = packE e ++ (t.flatMap packE).take (k - (packE e).length) := by
        rw [List.take_append, List.take_of_length_le h]
      rw [List.length_cons, e1, unp_one _ _ _ _ he]
      exact ih (fun x hx => hl x (by simp [hx])) _ _ (by omega)
    · have e1 : (packE e ++ t.flatMap packE).take k = (packE e).take k := by
        rw [List.take_append_of_le_length (by omega)]
      rw [List.length_cons, e1]
      obtain ⟨h1, h2, h3, h4, h5⟩ := he
      unfold packE at h ⊢
      by_cases hx : k < (putL (3 * e.place + e.kind - 1)).length
      · rw [List.take_append_of_le_length (by omega)]
        exact unp_none _ _ _ (tk_cut _ (by omega) _ hx)
      · have e2 : ∀ q, (putL (3 * e.place + e.kind - 1) ++ q).take k = putL (3 * e.place + e.kind - 1) ++ q.take (k - (putL (3 * e.place + e.kind - 1)).length) := fun q => by
          rw [List.take_append, List.take_of_length_le (by omega)]
        rw [e2]
        rw [List.length_append] at h
        by_cases hd : e.kind = 1
        · simp only [hd, ne_eq, not_true, if_false, List.length_nil] at h hx; omega
        · have e3 : (if e.kind ≠ 1 then putL e.msg else []) = putL e.msg := if_pos hd
          rw [e3] at h ⊢
          exact unp_half _ _ _ (tk_put _ _ (by omega)) (by omega) (tk_cut e.msg (by omega) _ (by omega))

/-- What Unpack answers: its error and its events. -/
def Unp (b : List Nat) (c : Int) (l : List Ev) : Prop :=
  (l = [] ∧ c ≠ 0 ∧ (4000 < b.length ∨ (tk b = none ∧ c = 3) ∨ ∃ n r, tk b = some (n, r) ∧ (200 < n ∨ (unp n [] r = none ∧ c = 3) ∨ ∃ l' s, unp n [] r = some (l', s) ∧ (s ≠ [] ∨ ¬ Valid l')))) ∨
  (c = 0 ∧ Valid l ∧ l.length ≤ 200 ∧ ∃ n r, tk b = some (n, r) ∧ unp n [] r = some (l, []))
/-- What unpacks at all. -/
theorem Unp.back {b : List Nat} (hb : ∀ x ∈ b, x < 256) {c : Int} {l : List Ev} (h : Unp b c l) (hc : c = 0) : packL l = b ∧ Valid l ∧ l.length ≤ 200 := by
  rcases h with ⟨_, h, _⟩ | ⟨_, hv, hl, n, r, h1, h2⟩
  · exact absurd hc h
  · obtain ⟨t, rfl, ht, hr⟩ := unp_back _ _ _ (tk_len hb h1).2 _ _ h2
    refine ⟨?_, hv, hl⟩
    rw [tk_some b hb n r h1, hr, ← ht]
    simp [packL]
end Go.Proofs.Ytcdladnbcamgjaa.Tk
