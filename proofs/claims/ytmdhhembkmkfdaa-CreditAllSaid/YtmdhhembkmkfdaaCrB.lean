/- What a round leaves: the measure of it is less by six at least. -/
import Derived.Test.YtmdhhembkmkfdaaCrA
namespace Go.Proofs.Ytmdhhembkmkfdaa.Cr

def psi (p : Pool) : Nat := 10 * p.wants + 11 * p.mays + 5 * p.useds
def tee (p : Pool) : Nat := 2 * p.wants + 2 * p.mays + p.useds
def two (p : Pool) : Prop := ∃ a b, a < p.n ∧ b < p.n ∧ a ≠ b ∧ 0 < (p.lane a).want ∧ 0 < (p.lane b).want

theorem use_sums {p : Pool} {i : Nat} (hi : i < p.n) (hm : 0 < (p.lane i).may) : (p.useOp i).wants = p.wants ∧ (p.useOp i).mays + 1 = p.mays ∧ (p.useOp i).useds = p.useds + 1 := by
  have h1 := wants_use p i hi
  have h2 := mays_put p i ⟨(p.lane i).want, (p.lane i).may - 1, (p.lane i).used + 1⟩ hi
  have h3 := useds_put p i ⟨(p.lane i).want, (p.lane i).may - 1, (p.lane i).used + 1⟩ hi
  have e2 : (p.useOp i).mays = (p.put i ⟨(p.lane i).want, (p.lane i).may - 1, (p.lane i).used + 1⟩).mays := rfl
  have e3 : (p.useOp i).useds = (p.put i ⟨(p.lane i).want, (p.lane i).may - 1, (p.lane i).used + 1⟩).useds := rfl
  simp only at h2 h3
  omega
theorem use_lane {p : Pool} {i : Nat} (hi : i < p.n) (j : Nat) : (p.useOp i).lane j = if i = j then ⟨(p.lane i).want, (p.lane i).may - 1, (p.lane i).used + 1⟩ else p.lane j := lane_put p i _ hi j
theorem use_want {p : Pool} {i : Nat} (hi : i < p.n) (j : Nat) : ((p.useOp i).lane j).want = (p.lane j).want := by
  rw [use_lane hi]; split
  · rename_i e; rw [e]
  · rfl
theorem use_tok {p : Pool} {i : Nat} (hi : i < p.n) (hm : 0 < (p.lane i).may) (j : Nat) : tok (p.useOp i) j = tok p j := by
  unfold tok; rw [use_lane hi]; split
  · rename_i e; subst e; simp only; omega
  · rfl
theorem use_n (p : Pool) (i : Nat) : (p.useOp i).n = p.n := by simp [Pool.useOp]
theorem use_pick {p : Pool} {i k : Nat} (hi : i < p.n) (h : Pick (p.useOp i) k) : Pick p k := by
  obtain ⟨h1, h2, h3⟩ := h
  rw [use_n] at h1 h3
  refine ⟨h1, by rw [use_want hi] at h2; exact h2, fun b hb hw => ?_⟩
  exact h3 b hb (by rw [use_want hi]; exact hw)

/-- A free room that nobody wants: nothing else changes. -/
theorem free_idle {n room : Nat} {p : Pool} (h : Good n room p) {i : Nat} (hi : i < n) (hu : 0 < (p.lane i).used) (hw : p.wants = 0) : (p.freeOp i).shared.wants = 0 ∧ (p.freeOp i).shared.mays = p.mays ∧ (p.freeOp i).shared.useds + 1 = p.useds := by
  have hi' : i < p.n := by rw [h.n]; exact hi
  have s := Inv.shared (Inv.freeOp h.inv hi' hu)
  have m1 := mays_put p i ⟨(p.lane i).want, (p.lane i).may, (p.lane i).used - 1⟩ hi'
  have m2 := useds_put p i ⟨(p.lane i).want, (p.lane i).may, (p.lane i).used - 1⟩ hi'
  have m3 := wants_put p i ⟨(p.lane i).want, (p.lane i).may, (p.lane i).used - 1⟩ hi'
  have ew : (p.freeOp i).wants = (p.put i ⟨(p.lane i).want, (p.lane i).may, (p.lane i).used - 1⟩).wants := rfl
  have em : (p.freeOp i).mays = (p.put i ⟨(p.lane i).want, (p.lane i).may, (p.lane i).used - 1⟩).mays := rfl
  have eu : (p.freeOp i).useds = (p.put i ⟨(p.lane i).want, (p.lane i).may, (p.lane i).used - 1⟩).useds := rfl
  have s1 := s.wants; have s2 := s.mays; have s3 := s.useds
  simp only at m1 m2 m3
  omega

theorem Good.act {n room : Nat} {p : Pool} (h : Good n room p) {i : Nat} (hi : i < n) : Good n room (p.act i) := by
  have hi' : i < p.n := by rw [h.n]; exact hi
  unfold Pool.act
  split
  · rename_i hm
    exact ⟨Inv.useOp h.inv hi' hm, by rw [wants_use p i hi']; exact h.tight, by rw [← h.n]; simp [Pool.useOp], h.room⟩
  · split
    · rename_i hm
      exact Good.of_shared (Inv.freeOp h.inv hi' hm) (by rw [← h.n]; simp [Pool.freeOp, Pool.n, Pool.put]) h.room
    · exact h

/-- A turn: nothing; a use; or one is passed on; or given back, where nobody wants any. -/
theorem act_cases {n room : Nat} {p : Pool} (h : Good n room p) {i : Nat} (hi : i < n) :
    (tok p i = 0 ∧ p.act i = p) ∨ (0 < tok p i ∧ 0 < (p.lane i).may ∧ p.act i = p.useOp i ∧ psi (p.act i) + 6 = psi p ∧ tee (p.act i) + 1 = tee p) ∨
    (0 < tok p i ∧ (p.lane i).may = 0 ∧ 0 < (p.lane i).used ∧ 0 < p.wants ∧ (∃ k, Passed p i k (p.act i)) ∧ psi (p.act i) + 4 = psi p ∧ tee (p.act i) + 1 = tee p) ∨
    (0 < tok p i ∧ p.wants = 0 ∧ psi (p.act i) + 5 = psi p ∧ tee (p.act i) + 1 = tee p) := by
  have hi' : i < p.n := by rw [h.n]; exact hi
  by_cases hm : 0 < (p.lane i).may
  · have e : p.act i = p.useOp i := if_pos hm
    have s := use_sums hi' hm
    refine .inr (.inl ⟨by unfold tok; omega, hm, e, ?_, ?_⟩)
    · rw [e]; unfold psi; omega
    · rw [e]; unfold tee; omega
  · by_cases hu : 0 < (p.lane i).used
    · have e : p.act i = (p.freeOp i).shared := by unfold Pool.act; rw [if_neg hm, if_pos hu]
      by_cases hw : 0 < p.wants
      · obtain ⟨k, hk⟩ := passed h hi hu hw
        have a := hk.wants; have b := hk.mays; have c := hk.useds
        refine .inr (.inr (.inl ⟨by unfold tok; omega, by omega, hu, hw, ⟨k, by rw [e]; exact hk⟩, ?_, ?_⟩))
        · rw [e]; unfold psi; omega
        · rw [e]; unfold tee; omega
      · have hw0 : p.wants = 0 := by omega
        obtain ⟨a, b, c⟩ := free_idle h hi hu hw0
        refine .inr (.inr (.inr ⟨by unfold tok; omega, hw0, ?_, ?_⟩))
        · rw [e]; unfold psi; omega
        · rw [e]; unfold tee; omega
    · exact .inl ⟨by unfold tok; omega, by unfold Pool.act; rw [if_neg hm, if_neg hu]⟩

theorem want_sum2 (l : List Lane) : ∀ a b, a < l.length → b < l.length → a ≠ b → (l.getD a Lane.none).want + (l.getD b Lane.none).want ≤ (l.map (·.want)).sum := by
  induction l with
  | nil => intro a b h; simp at h
  | cons x l ih =>
    intro a b ha hb hab
    simp only [List.map_cons, List.sum_cons]
    match a, b with
    | 0, 0 => exact absurd rfl hab
    | 0, b + 1 => have := le_sum (·.want) rfl l b; simp only [List.getD_cons_zero, List.getD_cons_succ]; omega
    | a + 1, 0 => have := le_sum (·.want) rfl l a; simp only [List.getD_cons_zero, List.getD_cons_succ]; omega
    | a + 1, b + 1 => have := ih a b (by simpa using ha) (by simpa using hb) (by omega); simp only [List.getD_cons_succ]; omega
theorem two_wants {p : Pool} (h : two p) : 2 ≤ p.wants := by
  obtain ⟨a, b, ha, hb, hab, h1, h2⟩ := h
  have := want_sum2 p.lanes a b ha hb hab
  unfold Pool.wants; unfold Pool.lane at h1 h2; omega

/-- The one that is next after a passing on is another one, where two want some. -/
theorem next_other {p q : Pool} {i k k2 : Nat} (h : Passed p i k q) (hx : p.n ≤ 8) (h2 : Pick q k2) (ht : two p) : k2 ≠ k := by
  obtain ⟨a, b, ha, hb, hab, w1, w2⟩ := ht
  have hk := h.pick.lt
  intro e
  subst e
  -- another one that wants some
  obtain ⟨c, hc, hck, hcw⟩ : ∃ c, c < p.n ∧ c ≠ k2 ∧ 0 < (p.lane c).want := by
    by_cases e : a = k2
    · exact ⟨b, hb, fun e2 => hab (e.trans e2.symm), w2⟩
    · exact ⟨a, ha, e, w1⟩
  have hq : (q.lane c).want = (p.lane c).want := by
    by_cases e : c = i
    · subst e; rw [h.self hck]
    · rw [h.other c e hck]
  have hf := h2.first c (by rw [h.n]; exact hc) (by omega)
  rw [h.n, h.next] at hf
  have hn : (k2 + 1) % p.n = if k2 + 1 = p.n then 0 else k2 + 1 := by
    split
    · rename_i e; rw [e, Nat.mod_self]
    · rw [Nat.mod_eq_of_lt (by omega)]
  rw [hn] at hf
  unfold dist at hf
  split at hf <;> split at hf <;> (try split at hf) <;> omega

/-- Where all that is given is: at one lane. -/
def Gathered (p : Pool) (i : Nat) : Prop := i < p.n ∧ 0 < tok p i ∧ ∀ j, j < p.n → j ≠ i → tok p j = 0
def Gok (p : Pool) (g : Nat) : Prop := g ≤ 4 ∧ ∀ i k, Gathered p i → Pick p k → (k = i ∨ (k < i ∧ p.next ≠ (i + 1) % p.n) → 4 ≤ g) ∧ (k < i → 2 ≤ g)
theorem gok4 (p : Pool) : Gok p 4 := ⟨Nat.le_refl _, fun _ _ _ _ => ⟨fun _ => Nat.le_refl _, fun _ => by omega⟩⟩
theorem gok0 {p : Pool} {a b : Nat} (hab : a ≠ b) (ha : a < p.n) (hb : b < p.n) (h1 : 0 < tok p a) (h2 : 0 < tok p b) : Gok p 0 := by
  refine ⟨by omega, fun i k hg _ => ?_⟩
  exfalso
  by_cases e : a = i
  · subst e; have := hg.2.2 b hb (Ne.symm hab); omega
  · have := hg.2.2 a ha e; omega
def Cost (p : Pool) (c : Nat) : Prop := (two p → ∃ g, Gok p g ∧ psi p + g + 192 ≤ c) ∧ (¬ two p → 6 * tee p ≤ c)
end Go.Proofs.Ytmdhhembkmkfdaa.Cr
