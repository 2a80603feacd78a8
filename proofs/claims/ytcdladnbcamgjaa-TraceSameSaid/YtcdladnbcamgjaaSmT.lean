/- Two adjacent events of two places changed: at each place the same events, with the same clocks. -/
import Derived.Test.YtcdladnbcamgjaaAt
import Derived.Test.YtcdladnbcamgjaaSwT
namespace Go.Proofs.Ytcdladnbcamgjaa.SmT
open Go.Proofs.Ytcdladnbcamgjaa.Ev Go.Proofs.Ytcdladnbcamgjaa.CL Go.Proofs.Ytcdladnbcamgjaa.CW Go.Proofs.Ytcdladnbcamgjaa.Th Go.Proofs.Ytcdladnbcamgjaa.LdT Go.Proofs.Ytcdladnbcamgjaa.At Go.Proofs.Ytcdladnbcamgjaa.SwT

/-- What stands at the places that are p, of the first j. -/
def sel {α : Type} (pl : Nat → Nat) (val : Nat → α) (p : Nat) : Nat → List α
  | 0 => []
  | j + 1 => if pl j = p then sel pl val p j ++ [val j] else sel pl val p j
theorem sel_congr {α : Type} {pl pl' : Nat → Nat} {val val' : Nat → α} (p : Nat) : ∀ j, (∀ k, k < j → pl k = pl' k ∧ val k = val' k) → sel pl val p j = sel pl' val' p j
  | 0, _ => rfl
  | j + 1, h => by
    have ih := sel_congr (val := val) (val' := val') p j (fun k hk => h k (by omega))
    obtain ⟨h1, h2⟩ := h j (by omega)
    simp only [sel, ih, h1, h2]
theorem sel_swap {α : Type} {pl pl' : Nat → Nat} {val val' : Nat → α} (p i : Nat) (hne : pl i ≠ pl (i + 1)) (h1 : pl' i = pl (i + 1) ∧ val' i = val (i + 1)) (h2 : pl' (i + 1) = pl i ∧ val' (i + 1) = val i)
    (n : Nat) (h : ∀ k, k ≠ i → k ≠ i + 1 → k < n → pl' k = pl k ∧ val' k = val k) : ∀ j, j ≤ n → j ≠ i + 1 → sel pl' val' p j = sel pl val p j
  | 0, _, _ => rfl
  | j + 1, hj, hji => by
    by_cases e : j = i + 1
    · subst e
      have ih := sel_congr (pl := pl') (pl' := pl) (val := val') (val' := val) p i (fun k hk => h k (by omega) (by omega) (by omega))
      simp only [sel, ih, h1.1, h1.2, h2.1, h2.2]
      by_cases a : pl i = p
      · have b : ¬ pl (i + 1) = p := fun q => hne (a.trans q.symm)
        simp [a, b]
      · simp [a]
    · have ih := sel_swap p i hne h1 h2 n h j (by omega) e
      obtain ⟨a, b⟩ := h j (by omega) (by omega) (by omega)
      simp only [sel, ih, a, b]
theorem sub_sel (l : List Ev) (p : Nat) : ∀ j, sub l (atS l p) j = sel (fun k => (ev l k).place) (ev l) p j
  | 0 => rfl
  | j + 1 => by
    have ih := sub_sel l p j
    by_cases q : (ev l j).place = p
    · rw [sub_yes (show decide _ = true from decide_eq_true q), ih]; simp only [sel, q, if_true]
    · rw [sub_no (show decide _ = false from decide_eq_false q), ih]; simp only [sel, q, if_false]
/-- The clocks of a place's events. -/
def clkP (l : List Ev) (p j : Nat) : List (List Int) := sel (fun k => (ev l k).place) (clockAt l) p j
theorem clkP_yes {l : List Ev} {p j : Nat} (h : (ev l j).place = p) : clkP l p (j + 1) = clkP l p j ++ [clockAt l j] := by unfold clkP; simp only [sel, h, if_true]
theorem clkP_no {l : List Ev} {p j : Nat} (h : (ev l j).place ≠ p) : clkP l p (j + 1) = clkP l p j := by unfold clkP; simp only [sel, h, if_false]
theorem clkP_le (l : List Ev) (p : Nat) : ∀ j, (clkP l p j).length ≤ j
  | 0 => Nat.le_refl _
  | j + 1 => by
    have := clkP_le l p j
    by_cases h : (ev l j).place = p
    · rw [clkP_yes h, List.length_append]; simp; omega
    · rw [clkP_no h]; omega

/-- Nobody can tell them apart; and at each place the clocks are the same. -/
structure Alike (l g : List Ev) : Prop where
  len : g.length = l.length
  ats : ∀ p, atL g p = atL l p
  clk : ∀ p, clkP g p g.length = clkP l p l.length
theorem Alike.refl (l : List Ev) : Alike l l := ⟨rfl, fun _ => rfl, fun _ => rfl⟩
theorem Alike.turn {l g : List Ev} (h : Alike l g) (hv : Valid g) {i : Nat} (hi : i + 1 < g.length) (hw : Valid (swp g i)) (hp : (ev g i).place ≠ (ev g (i + 1)).place) : Alike l (swp g i) := by
  have hs := sep_of_valid hv hi hw hp
  have g1 : ev (swp g i) i = ev g (i + 1) := by rw [swp_get g i i hi, if_pos rfl]
  have g2 : ev (swp g i) (i + 1) = ev g i := by rw [swp_get g i (i + 1) hi, if_neg (by omega), if_pos rfl]
  have g3 : ∀ k, k ≠ i → k ≠ i + 1 → ev (swp g i) k = ev g k := fun k a b => by rw [swp_get g i k hi, if_neg a, if_neg b]
  refine ⟨by rw [swp_length]; exact h.len, fun p => ?_, fun p => ?_⟩
  · rw [← h.ats p]
    unfold At.atL
    rw [sub_sel, sub_sel, swp_length]
    exact sel_swap p i hp ⟨by rw [g1], g1⟩ ⟨by rw [g2], g2⟩ g.length (fun k a b _ => ⟨by rw [g3 k a b], g3 k a b⟩) g.length (Nat.le_refl _) (by omega)
  · rw [← h.clk p]
    unfold clkP
    rw [swp_length]
    refine sel_swap p i hp ⟨by rw [g1], ?_⟩ ⟨by rw [g2], ?_⟩ g.length (fun k a b hk => ⟨by rw [g3 k a b], ?_⟩) g.length (Nat.le_refl _) (by omega)
    · rw [swp_clock hv hi hs i (by omega), if_pos rfl]
    · rw [swp_clock hv hi hs (i + 1) hi, if_neg (by omega), if_pos rfl]
    · rw [swp_clock hv hi hs k hk, if_neg a, if_neg b]
theorem Alike.same {l g : List Ev} (h : Alike l g) : sameB l g = true := (sameB_iff l g).2 (fun p _ => by rw [h.ats p]; exact likeB_self _)
end Go.Proofs.Ytcdladnbcamgjaa.SmT
