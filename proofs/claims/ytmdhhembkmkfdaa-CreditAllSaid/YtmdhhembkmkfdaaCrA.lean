/- Rounds in which every lane that has some uses it, and is done with it: each makes a measure less. -/
import Derived.Test.YtmdhhembkmkfdaaCrX
namespace Go.Proofs.Ytmdhhembkmkfdaa.Cr

/-- How far lane b stands behind x, in turn. -/
def dist (n x b : Nat) : Nat := if x ≤ b then b - x else b + n - x
theorem dist_mod {n x b : Nat} (hx : x < n) (hb : b < n) : (x + dist n x b) % n = b ∧ dist n x b < n := by
  unfold dist
  split
  · rw [show x + (b - x) = b by omega, Nat.mod_eq_of_lt hb]; omega
  · rw [show x + (b + n - x) = b + n by omega, Nat.add_mod_right, Nat.mod_eq_of_lt hb]; omega
theorem mod_dist {n x e : Nat} (hx : x < n) (he : e < n) : dist n x ((x + e) % n) = e := by
  unfold dist
  by_cases h : x + e < n
  · rw [Nat.mod_eq_of_lt h]; split <;> omega
  · have : (x + e) % n = x + e - n := by
      rw [Nat.mod_eq_sub_mod (by omega), Nat.mod_eq_of_lt (by omega)]
    rw [this]; split <;> omega
/-- Who is next. -/
structure Pick (p : Pool) (k : Nat) : Prop where
  lt : k < p.n
  want : 0 < (p.lane k).want
  first : ∀ b, b < p.n → 0 < (p.lane b).want → dist p.n p.next k ≤ dist p.n p.next b
theorem pick_le (p : Pool) : ∀ d j k, p.pick d j = some k → ∃ e, j ≤ e ∧ e < j + d ∧ k = (p.next + e) % p.n ∧ 0 < (p.lane k).want ∧ ∀ e', j ≤ e' → e' < e → (p.lane ((p.next + e') % p.n)).want = 0
  | 0, j, k, h => by simp [Pool.pick] at h
  | d + 1, j, k, h => by
    unfold Pool.pick at h
    split at h
    · rename_i hw
      obtain rfl := Option.some.inj h
      exact ⟨j, Nat.le_refl _, by omega, rfl, hw, fun e' a b => by omega⟩
    · rename_i hw
      obtain ⟨e, h1, h2, h3, h4, h5⟩ := pick_le p d (j + 1) k h
      refine ⟨e, by omega, by omega, h3, h4, fun e' a b => ?_⟩
      by_cases c : e' = j
      · subst c; omega
      · exact h5 e' (by omega) b
theorem Pick.of {p : Pool} (hp : p.Inv) {k : Nat} (h : p.pick p.n 0 = some k) : Pick p k := by
  obtain ⟨e, _, h2, h3, h4, h5⟩ := pick_le p _ _ _ h
  have h2' : e < p.n := by omega
  refine ⟨by rw [h3]; exact Nat.mod_lt _ (by omega), h4, fun b hb hw => ?_⟩
  rw [h3, mod_dist hp.nx h2']
  obtain ⟨a1, a2⟩ := dist_mod hp.nx hb
  by_cases c : dist p.n p.next b < e
  · have := h5 _ (Nat.zero_le _) c
    rw [a1] at this; omega
  · omega

/-- A lane's turn. -/
def Pool.act (p : Pool) (i : Nat) : Pool := if 0 < (p.lane i).may then p.useOp i else if 0 < (p.lane i).used then (p.freeOp i).shared else p
def tok (p : Pool) (j : Nat) : Nat := (p.lane j).may + (p.lane j).used
/-- What a lane that is done with one, and the one that gets it, leave. -/
structure Passed (p : Pool) (i k : Nat) (q : Pool) : Prop where
  pick : Pick p k
  n : q.n = p.n
  next : q.next = (k + 1) % p.n
  other : ∀ j, j ≠ i → j ≠ k → q.lane j = p.lane j
  self : i ≠ k → q.lane i = ⟨(p.lane i).want, (p.lane i).may, (p.lane i).used - 1⟩
  to : q.lane k = ⟨(p.lane k).want - 1, (p.lane k).may + 1, (p.lane k).used - (if i = k then 1 else 0)⟩
  wants : q.wants + 1 = p.wants
  mays : q.mays = p.mays + 1
  useds : q.useds + 1 = p.useds
theorem passed {n room : Nat} {p : Pool} (h : Good n room p) {i : Nat} (hi : i < n) (hu : 0 < (p.lane i).used) (hw : 0 < p.wants) : ∃ k, Passed p i k (p.freeOp i).shared := by
  have hi' : i < p.n := by rw [h.n]; exact hi
  have hf : p.free = 0 := by rcases h.tight with a | a <;> omega
  have hin := Inv.freeOp h.inv hi' hu
  have en : (p.freeOp i).n = p.n := by simp [Pool.freeOp, Pool.n, Pool.put]
  have e0 : (p.freeOp i).free = 1 := by show p.free + 1 = 1; omega
  have ln : ∀ j, (p.freeOp i).lane j = if i = j then ⟨(p.lane i).want, (p.lane i).may, (p.lane i).used - 1⟩ else p.lane j := fun j => lane_put p i _ hi' j
  have m1 := mays_put p i ⟨(p.lane i).want, (p.lane i).may, (p.lane i).used - 1⟩ hi'
  have m2 := useds_put p i ⟨(p.lane i).want, (p.lane i).may, (p.lane i).used - 1⟩ hi'
  have m3 := wants_put p i ⟨(p.lane i).want, (p.lane i).may, (p.lane i).used - 1⟩ hi'
  have ew : (p.freeOp i).wants = p.wants := by
    have : (p.freeOp i).wants = (p.put i ⟨(p.lane i).want, (p.lane i).may, (p.lane i).used - 1⟩).wants := rfl
    simp only at m3; omega
  have em : (p.freeOp i).mays = p.mays := by
    have : (p.freeOp i).mays = (p.put i ⟨(p.lane i).want, (p.lane i).may, (p.lane i).used - 1⟩).mays := rfl
    simp only at m1; omega
  have eu : (p.freeOp i).useds + 1 = p.useds := by
    have : (p.freeOp i).useds = (p.put i ⟨(p.lane i).want, (p.lane i).may, (p.lane i).used - 1⟩).useds := rfl
    simp only at m2; omega
  cases hp : (p.freeOp i).pick (p.freeOp i).n 0 with
  | none => have := pick_none_all _ hin.nx hp; omega
  | some k =>
    have pk := Pick.of hin hp
    have hk : k < p.n := by have := pk.lt; omega
    have es : (p.freeOp i).shared = (p.freeOp i).grant k := by
      rw [share_some _ k (by omega) hp]
      exact share_zero _ (by show (p.freeOp i).free - 1 = 0; omega)
    have lw : ∀ j, ((p.freeOp i).lane j).want = (p.lane j).want := fun j => by
      rw [ln]; split
      · rename_i e; rw [e]
      · rfl
    have lg := fun j => lane_grant (p.freeOp i) k (by rw [en]; exact hk) j
    have g1 := wants_grant (p.freeOp i) k (by rw [en]; exact hk) pk.want
    have g2 := mays_grant (p.freeOp i) k (by rw [en]; exact hk)
    have g3 := useds_grant (p.freeOp i) k (by rw [en]; exact hk)
    refine ⟨k, ⟨⟨hk, by rw [← lw]; exact pk.want, fun b hb hwb => ?_⟩, ?_, ?_, fun j h1 h2 => ?_, fun h1 => ?_, ?_, ?_, ?_, ?_⟩⟩
    · have := pk.first b (by rw [en]; exact hb) (by rw [lw]; exact hwb)
      rw [en] at this; exact this
    · rw [es, n_grant, en]
    · rw [es]; show (k + 1) % (p.freeOp i).n = _; rw [en]
    · rw [es, lg, if_neg (Ne.symm h2), ln, if_neg (Ne.symm h1)]
    · rw [es, lg, if_neg (Ne.symm h1), ln, if_pos rfl]
    · rw [es, lg, if_pos rfl, ln]
      by_cases e : i = k
      · subst e; simp
      · simp [e]
    · rw [es]; omega
    · rw [es]; omega
    · rw [es]; omega
end Go.Proofs.Ytmdhhembkmkfdaa.Cr
