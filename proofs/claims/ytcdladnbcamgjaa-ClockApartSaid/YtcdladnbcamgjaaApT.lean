/- The theory behind ClockApart: the sum of a clock is the number of those that lead to its event, and one. -/
import Derived.Test.YtcdladnbcamgjaaTh
namespace Go.Proofs.Ytcdladnbcamgjaa.ApT
open Go.Proofs.Ytcdladnbcamgjaa.Ev Go.Proofs.Ytcdladnbcamgjaa.CL Go.Proofs.Ytcdladnbcamgjaa.CW Go.Proofs.Ytcdladnbcamgjaa.Th

/-- How many of the first j are of the place, and among its first c. -/
def cf (l : List Ev) (p c : Nat) : Nat → Nat
  | 0 => 0
  | j + 1 => cf l p c j + if (ev l j).place = p ∧ cnt l p (j + 1) ≤ c then 1 else 0
theorem cf_min (l : List Ev) (p c : Nat) : ∀ j, cf l p c j = min c (cnt l p j)
  | 0 => by simp [cf, cnt]
  | j + 1 => by
    have ih := cf_min l p c j
    have e : cnt l p (j + 1) = cnt l p j + if (ev l j).place = p then 1 else 0 := rfl
    show cf l p c j + (if (ev l j).place = p ∧ cnt l p (j + 1) ≤ c then 1 else 0) = min c (cnt l p (j + 1))
    by_cases h : (ev l j).place = p
    · rw [if_pos h] at e
      by_cases h2 : cnt l p (j + 1) ≤ c
      · rw [if_pos ⟨h, h2⟩]; omega
      · rw [if_neg (fun q => h2 q.2)]; omega
    · rw [if_neg h] at e
      rw [if_neg (fun q => h q.1)]; omega
/-- How many of the first j are in a cut. -/
def rc (l : List Ev) (f : Nat → Nat) : Nat → Nat
  | 0 => 0
  | j + 1 => rc l f j + if cnt l (ev l j).place (j + 1) ≤ f (ev l j).place then 1 else 0
theorem rc_sum {l : List Ev} (hv : Valid l) (f : Nat → Nat) : ∀ j, j ≤ l.length →
    cf l 0 (f 0) j + cf l 1 (f 1) j + cf l 2 (f 2) j + cf l 3 (f 3) j + cf l 4 (f 4) j + cf l 5 (f 5) j + cf l 6 (f 6) j + cf l 7 (f 7) j = rc l f j
  | 0, _ => rfl
  | j + 1, h => by
    have ih := rc_sum hv f j (by omega)
    have h8 : (ev l j).place < 8 := (hv j (by omega)).p8
    simp only [cf, rc]
    generalize (ev l j).place = q at h8 ⊢
    rcases (show q = 0 ∨ q = 1 ∨ q = 2 ∨ q = 3 ∨ q = 4 ∨ q = 5 ∨ q = 6 ∨ q = 7 by omega) with h | h | h | h | h | h | h | h <;>
      simp [h] <;> omega
theorem sum8 (xs : List Int) (h : xs.length = 8) : xs.sum = xs.getD 0 0 + xs.getD 1 0 + xs.getD 2 0 + xs.getD 3 0 + xs.getD 4 0 + xs.getD 5 0 + xs.getD 6 0 + xs.getD 7 0 := by
  match xs, h with
  | [a, b, c, d, e, f, g, k], _ => simp; omega

/-- How many are ahead of event i among the first j. -/
def led (l : List Ev) (i : Nat) : Nat → Nat
  | 0 => 0
  | j + 1 => led l i j + if aheadL l j i = true then 1 else 0
theorem led_le (l : List Ev) (i : Nat) : ∀ j, led l i j ≤ j
  | 0 => Nat.le_refl _
  | j + 1 => by have := led_le l i j; simp only [led]; split <;> omega
theorem in_iff {l : List Ev} (hv : Valid l) {i j : Nat} (hi : i < l.length) (hj : j < l.length) : cnt l (ev l j).place (j + 1) ≤ ((clockAt l i).getD (ev l j).place 0).toNat ↔ Th.Reach l j i := by
  have h0 := clock_low hv hi (ev l j).place
  constructor
  · intro h; exact key hv j hj i hi (by omega)
  · intro h
    have := reach_le hv h (ev l j).place
    rw [(clock_cnt hv j hj).2] at this
    omega
theorem rc_led {l : List Ev} (hv : Valid l) {i : Nat} (hi : i < l.length) : ∀ j, j ≤ i → rc l (fun p => ((clockAt l i).getD p 0).toNat) j = led l i j
  | 0, _ => rfl
  | j + 1, h => by
    have ih := rc_led hv hi j (by omega)
    have hb := in_iff hv hi (show j < l.length by omega)
    have ha := ahead_iff hv (show j < l.length by omega) hi
    simp only [rc, led, ih]
    congr 1
    by_cases hr : Th.Reach l j i
    · rw [if_pos (hb.2 hr), if_pos (ha.2 ⟨by omega, hr⟩)]
    · rw [if_neg (fun h => hr (hb.1 h)), if_neg (fun h => hr (ha.1 h).2)]
theorem clock_sum {l : List Ev} (hv : Valid l) {i : Nat} (hi : i < l.length) : (clockAt l i).sum = (led l i i : Int) + 1 := by
  have hs := rc_sum hv (fun p => ((clockAt l i).getD p 0).toNat) (i + 1) (by omega)
  have hl : rc l (fun p => ((clockAt l i).getD p 0).toNat) (i + 1) = led l i i + 1 := by
    simp only [rc, rc_led hv hi i (Nat.le_refl _)]
    rw [if_pos ((in_iff hv hi hi).2 .refl)]
  rw [hl] at hs
  have hc := fun p => (clock_cnt hv i hi).1 p
  have hp := fun p => clock_low hv hi p
  simp only [cf_min] at hs
  rw [sum8 _ (clock_len hv hi)]
  have e : ∀ p, ((min ((clockAt l i).getD p 0).toNat (cnt l p (i + 1)) : Nat) : Int) = (clockAt l i).getD p 0 := fun p => by have := hc p; have := hp p; omega
  have e0 := e 0; have e1 := e 1; have e2 := e 2; have e3 := e 3; have e4 := e 4; have e5 := e 5; have e6 := e 6; have e7 := e 7
  rw [← e0, ← e1, ← e2, ← e3, ← e4, ← e5, ← e6, ← e7]
  clear e e0 e1 e2 e3 e4 e5 e6 e7 hc hp
  have h := congrArg (fun n : Nat => (n : Int)) hs
  simp only [Int.natCast_add] at h
  exact h
theorem sum_take_bound {xs : List Int} {b : Int} (hb : 0 ≤ b) (h : ∀ p, 0 ≤ xs.getD p 0 ∧ xs.getD p 0 ≤ b) : ∀ j, j ≤ xs.length → 0 ≤ (xs.take j).sum ∧ (xs.take j).sum ≤ b * j
  | 0, _ => by simp
  | j + 1, hj => by
    have ih := sum_take_bound hb h j (by omega)
    have e := h j
    have eg : xs.getD j 0 = xs[j] := by simp [List.getD_eq_getElem?_getD, show j < xs.length by omega]
    rw [List.take_succ_eq_append_getElem (by omega), List.sum_append, ← eg]
    have : b * ((j + 1 : Nat) : Int) = b * (j : Int) + b := by rw [Int.natCast_succ, Int.mul_add, Int.mul_one]
    simp only [List.sum_cons, List.sum_nil]
    omega
theorem sum_take_succ (xs : List Int) (j : Nat) (h : j < xs.length) : (xs.take (j + 1)).sum = (xs.take j).sum + xs.getD j 0 := by
  have eg : xs.getD j 0 = xs[j] := by simp [List.getD_eq_getElem?_getD, h]
  rw [List.take_succ_eq_append_getElem h, List.sum_append, ← eg]
  simp
/-- All pairs (k, i) of which none is ahead, i among the first j. -/
def apartN (l : List Ev) : Nat → Nat
  | 0 => 0
  | j + 1 => apartN l j + (j - led l j j)
def ledN (l : List Ev) : Nat → Nat
  | 0 => 0
  | j + 1 => ledN l j + led l j j
theorem pairs (l : List Ev) : ∀ j, 2 * (apartN l j + ledN l j) + j = j * j
  | 0 => rfl
  | j + 1 => by
    have ih := pairs l j
    have := led_le l j j
    have e : (j + 1) * (j + 1) = j * j + 2 * j + 1 := by rw [Nat.add_mul, Nat.mul_add]; omega
    simp only [apartN, ledN]
    omega
theorem apart_le (l : List Ev) (j : Nat) : apartN l j ≤ j * j ∧ ledN l j ≤ j * j := by have := pairs l j; omega
end Go.Proofs.Ytcdladnbcamgjaa.ApT
