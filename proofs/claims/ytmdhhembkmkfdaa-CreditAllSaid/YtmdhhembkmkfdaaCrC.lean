/- A round of turns: what it leaves, measured. -/
import Derived.Test.YtmdhhembkmkfdaaCrB
namespace Go.Proofs.Ytmdhhembkmkfdaa.Cr

/-- So far in this round, where two want some. -/
def Trk (p : Pool) (j : Nat) (q : Pool) : Prop :=
  (∃ i, i < j ∧ i < p.n ∧ 0 < (p.lane i).may ∧ q = p.useOp i ∧ ∀ x, x < j → x ≠ i → tok p x = 0) ∨
  (∃ i k, i < j ∧ i < p.n ∧ (p.lane i).may = 0 ∧ 0 < (p.lane i).used ∧ Passed p i k q ∧ (k ≤ i ∨ j ≤ k) ∧ ∀ x, x < j → x ≠ i → tok p x = 0) ∨
  (psi q + 8 ≤ psi p ∧ ∃ a b, a ≠ b ∧ a < p.n ∧ b < p.n ∧ 0 < tok q a ∧ 0 < tok q b) ∨
  (psi q + 10 ≤ psi p)
structure Rnd (n room : Nat) (p : Pool) (j : Nat) (q : Pool) (d : Bool) : Prop where
  good : Good n room q
  low : ∀ x, (q.lane x).want ≤ (p.lane x).want
  mv : (d = true ∧ q = p ∧ ∀ x, x < j → tok p x = 0) ∨ (d = false ∧ tee q + 1 ≤ tee p ∧ (two p → Trk p j q))

theorem passed_psi {p q : Pool} {i k : Nat} (h : Passed p i k q) : psi q + 4 = psi p := by
  have a := h.wants; have b := h.mays; have c := h.useds
  unfold psi; omega

theorem act_low {n room : Nat} {p : Pool} (h : Good n room p) {i : Nat} (hi : i < n) (x : Nat) : ((p.act i).lane x).want ≤ (p.lane x).want := by
  have hi' : i < p.n := by rw [h.n]; exact hi
  unfold Pool.act
  split
  · rw [use_want hi']; exact Nat.le_refl _
  · split
    · rename_i hu
      refine Nat.le_trans ((Inv.shared (Inv.freeOp h.inv hi' hu)).low x) ?_
      have e : (p.freeOp i).lane x = (p.put i ⟨(p.lane i).want, (p.lane i).may, (p.lane i).used - 1⟩).lane x := rfl
      rw [e, lane_put p i _ hi']
      split
      · rename_i c; subst c; exact Nat.le_refl _
      · exact Nat.le_refl _
    · exact Nat.le_refl _
theorem Rnd.start {n room : Nat} {p : Pool} (h : Good n room p) : Rnd n room p 0 p true := ⟨h, fun _ => Nat.le_refl _, .inl ⟨rfl, rfl, fun x hx => absurd hx (Nat.not_lt_zero x)⟩⟩

theorem trk_step {n room : Nat} {p q : Pool} {j : Nat} (hp : Good n room p) (hq : Good n room q) (hj : j < n) (ht : two p) (h : Trk p j q) : Trk p (j + 1) (q.act j) := by
  have hw := two_wants ht
  have pn := hp.n
  have qn := hq.n
  rcases act_cases hq hj with ⟨t0, e⟩ | ⟨t1, m1, e, s1, -⟩ | ⟨t1, m1, u1, w1, ⟨k2, hk2⟩, s1, -⟩ | ⟨t1, w1, s1, -⟩
  · -- nothing
    rw [e]
    rcases h with ⟨i, h1, h2, h3, h4, h5⟩ | ⟨i, k, h1, h2, h3, h4, h5, h6, h7⟩ | h | h
    · refine .inl ⟨i, by omega, h2, h3, h4, fun x hx hxi => ?_⟩
      by_cases c : x = j
      · subst c; rw [h4, use_tok h2 h3] at t0; exact t0
      · exact h5 x (by omega) hxi
    · have hkj : k ≠ j := fun c => by subst c; unfold tok at t0; rw [h5.to] at t0; simp at t0
      refine .inr (.inl ⟨i, k, by omega, h2, h3, h4, h5, by omega, fun x hx hxi => ?_⟩)
      by_cases c : x = j
      · subst c
        have := h5.other x hxi (Ne.symm hkj)
        unfold tok at t0 ⊢
        rw [this] at t0; exact t0
      · exact h7 x (by omega) hxi
    · exact .inr (.inr (.inl h))
    · exact .inr (.inr (.inr h))
  · -- a use
    refine .inr (.inr (.inr ?_))
    rcases h with ⟨i, h1, h2, h3, h4, h5⟩ | ⟨i, k, h1, h2, h3, h4, h5, h6, h7⟩ | ⟨h, _⟩ | h
    · have s := use_sums h2 h3
      have : psi q + 6 = psi p := by rw [h4]; unfold psi; omega
      omega
    · have := passed_psi h5; omega
    · omega
    · omega
  · -- one is passed on
    rcases h with ⟨i, h1, h2, h3, h4, h5⟩ | ⟨i, k, h1, h2, h3, h4, h5, h6, h7⟩ | ⟨h, _⟩ | h
    · refine .inr (.inr (.inr ?_))
      have s := use_sums h2 h3
      have : psi q + 6 = psi p := by rw [h4]; unfold psi; omega
      omega
    · have a := passed_psi h5
      refine .inr (.inr (.inl ⟨by omega, k, k2, ?_, h5.pick.lt, by have := hk2.pick.lt; omega, ?_, ?_⟩))
      · exact Ne.symm (next_other h5 (by have := hp.inv.n8; omega) hk2.pick ht)
      · have hne : k2 ≠ k := next_other h5 (by have := hp.inv.n8; omega) hk2.pick ht
        by_cases c : k = j
        · subst c
          have := h5.to
          rw [this] at m1; simp at m1
        · unfold tok
          rw [hk2.other k c (Ne.symm hne), h5.to]; simp only; omega
      · unfold tok; rw [hk2.to]; simp only; omega
    · exact .inr (.inr (.inr (by omega)))
    · exact .inr (.inr (.inr (by omega)))
  · -- given back
    rcases h with ⟨i, h1, h2, h3, h4, h5⟩ | ⟨i, k, h1, h2, h3, h4, h5, h6, h7⟩ | ⟨h, _⟩ | h
    · have s := use_sums h2 h3
      rw [h4] at w1; omega
    · have := h5.wants; omega
    · exact .inr (.inr (.inr (by omega)))
    · exact .inr (.inr (.inr (by omega)))

theorem Rnd.step {n room : Nat} {p q : Pool} {j : Nat} {d : Bool} (hp : Good n room p) (h : Rnd n room p j q d) (hj : j < n) : Rnd n room p (j + 1) (q.act j) (d && decide (tok q j = 0)) := by
  have hg := h.good.act hj
  refine ⟨hg, fun x => Nat.le_trans (act_low h.good hj x) (h.low x), ?_⟩
  rcases h.mv with ⟨rfl, e, h0⟩ | ⟨rfl, ht, h2⟩
  · subst e
    rcases act_cases hp hj with ⟨t0, e⟩ | ⟨t1, m1, e, s1, s2⟩ | ⟨t1, m1, u1, w1, ⟨k2, hk2⟩, s1, s2⟩ | ⟨t1, w1, s1, s2⟩
    · refine .inl ⟨by simp [t0], e, fun x hx => ?_⟩
      by_cases c : x = j
      · subst c; exact t0
      · exact h0 x (by omega)
    · exact .inr ⟨by simp; omega, by omega, fun _ => .inl ⟨j, by omega, by rw [hp.n]; exact hj, m1, e, fun x hx hxj => h0 x (by omega)⟩⟩
    · exact .inr ⟨by simp; omega, by omega, fun _ => .inr (.inl ⟨j, k2, by omega, by rw [hp.n]; exact hj, m1, u1, hk2, by omega, fun x hx hxj => h0 x (by omega)⟩)⟩
    · exact .inr ⟨by simp; omega, by omega, fun h => by have := two_wants h; omega⟩
  · refine .inr ⟨by simp, ?_, fun h => trk_step hp ‹Rnd n room p j q false›.good hj h (h2 h)⟩
    rcases act_cases ‹Rnd n room p j q false›.good hj with ⟨t0, e⟩ | ⟨_, _, _, _, s2⟩ | ⟨_, _, _, _, _, _, s2⟩ | ⟨_, _, _, s2⟩
    · rw [e]; exact ht
    · omega
    · omega
    · omega

/-- Where no two want any: what is measured by turns is measured by psi as well. -/
theorem tee_psi {n room : Nat} {q : Pool} (h : Good n room q) (h2 : ¬ two q) : 6 * tee q ≤ psi q + 192 := by
  have hw : q.wants ≤ 64 := by
    -- at most one lane wants any
    by_cases e : ∃ a, a < q.n ∧ 0 < (q.lane a).want
    · obtain ⟨a, ha, hwa⟩ := e
      have hz := wants_put q a ⟨0, (q.lane a).may, (q.lane a).used⟩ ha
      have h0 : (q.put a ⟨0, (q.lane a).may, (q.lane a).used⟩).wants = 0 := by
        refine sum_zero (·.want) rfl _ (fun i hi => ?_)
        have hi' : i < q.n := by simpa [Pool.n, Pool.put] using hi
        show ((q.put a ⟨0, (q.lane a).may, (q.lane a).used⟩).lane i).want = 0
        rw [lane_put q a _ ha]
        split
        · rfl
        · rename_i c
          by_cases z : 0 < (q.lane i).want
          · exact absurd ⟨a, i, ha, hi', c, hwa, z⟩ h2
          · omega
      have := h.inv.w64 a
      simp only at hz; omega
    · have : q.wants = 0 := sum_zero (·.want) rfl _ (fun i hi => by
        have hi' : i < q.n := hi
        show (q.lane i).want = 0
        by_cases z : 0 < (q.lane i).want
        · exact absurd ⟨i, hi', z⟩ e
        · omega)
      omega
  have := h.inv.sum; have := h.inv.r64
  unfold tee psi; omega

theorem gathered_at {q : Pool} {a i : Nat} (h : Gathered q i) (ha : a < q.n) (ht : 0 < tok q a) : i = a := by
  by_cases e : a = i
  · exact e.symm
  · have := h.2.2 a ha e; omega

theorem round_two {n room : Nat} {p q : Pool} (hp : Good n room p) (hq : Good n room q) (hlow : ∀ x, (q.lane x).want ≤ (p.lane x).want) (ht : two p) (h : Trk p n q) {g c : Nat} (hg : Gok p g) (hc : psi p + g + 192 ≤ c + 6) : Cost q c := by
  have pn := hp.n
  have qn := hq.n
  have n8 := hp.inv.n8
  have key : (∃ g', Gok q g' ∧ psi q + g' + 192 ≤ c) ∧ psi q + 192 ≤ c := by
    rcases h with ⟨i, h1, h2, h3, h4, h5⟩ | ⟨i, k, h1, h2, h3, h4, h5, h6, h7⟩ | ⟨h, a, b, hab, ha, hb, ta, tb⟩ | h
    · have s := use_sums h2 h3
      have e : psi q + 6 = psi p := by rw [h4]; unfold psi; omega
      refine ⟨⟨g, ⟨hg.1, fun i' k' hi' hk' => ?_⟩, by omega⟩, by omega⟩
      subst h4
      have hn : (p.useOp i).n = p.n := use_n p i
      have hx : (p.useOp i).next = p.next := rfl
      rw [hx, hn]
      refine hg.2 i' k' ⟨by rw [← hn]; exact hi'.1, by rw [← use_tok h2 h3]; exact hi'.2.1, fun x hx hxi => ?_⟩ (use_pick h2 hk')
      rw [← use_tok h2 h3]; exact hi'.2.2 x (by rw [hn]; exact hx) hxi
    · have e := passed_psi h5
      have hk := h5.pick.lt
      have gi : Gathered p i := ⟨h2, by unfold tok; omega, fun x hx hxi => h7 x (by omega) hxi⟩
      have g1 := hg.2 i k gi h5.pick
      have tk : 0 < tok q k := by unfold tok; rw [h5.to]; simp only; omega
      have oth : ∀ k', Pick q k' → k' ≠ k := fun k' hk' => next_other h5 (by omega) hk' ht
      have at_k : ∀ i', Gathered q i' → i' = k := fun i' hi' => gathered_at hi' (by omega) tk
      have nx : q.next = (k + 1) % q.n := by rw [h5.next, h5.n]
      have gok2 : Gok q 2 := ⟨by omega, fun i' k' hi' hk' => by
        have e1 := at_k i' hi'
        subst e1
        refine ⟨fun c => ?_, fun _ => Nat.le_refl _⟩
        rcases c with c | ⟨_, c⟩
        · exact absurd c (oth k' hk')
        · exact absurd nx c⟩
      by_cases hki : k = i
      · have := g1.1 (.inl hki)
        exact ⟨⟨2, gok2, by omega⟩, by omega⟩
      · have hki' : k < i := by omega
        have g2 := g1.2 hki'
        by_cases ti : 0 < tok q i
        · exact ⟨⟨0, gok0 hki (by omega) (by omega) tk ti, by omega⟩, by omega⟩
        · by_cases fr : p.next = (i + 1) % p.n
          · refine ⟨⟨0, ⟨by omega, fun i' k' hi' hk' => ?_⟩, by omega⟩, by omega⟩
            have e1 := at_k i' hi'
            subst e1
            have hne := oth k' hk'
            have hnl : ¬ k' < i' := fun hlt => by
              have hf := h5.pick.first k' (by omega) (by have := hlow k'; have := hk'.want; omega)
              have hn : (i + 1) % p.n = if i + 1 = p.n then 0 else i + 1 := by
                split
                · rename_i e; rw [e, Nat.mod_self]
                · rw [Nat.mod_eq_of_lt (by omega)]
              rw [fr, hn] at hf
              unfold dist at hf
              split at hf <;> split at hf <;> (try split at hf) <;> omega
            exact ⟨fun c => by
              rcases c with c | ⟨c, _⟩
              · exact absurd c hne
              · exact absurd c hnl, fun c => absurd c hnl⟩
          · have := g1.1 (.inr ⟨hki', fr⟩)
            exact ⟨⟨2, gok2, by omega⟩, by omega⟩
    · exact ⟨⟨0, gok0 hab (by omega) (by omega) ta tb, by omega⟩, by omega⟩
    · exact ⟨⟨4, gok4 q, by omega⟩, by omega⟩
  exact ⟨fun _ => key.1, fun h2 => Nat.le_trans (tee_psi hq h2) key.2⟩

theorem Rnd.cost {n room : Nat} {p q : Pool} (hp : Good n room p) (h : Rnd n room p n q false) {c : Nat} (hc : Cost p (c + 6)) : Cost q c := by
  rcases h.mv with ⟨e, _⟩ | ⟨_, ht, h2⟩
  · cases e
  · by_cases t : two p
    · obtain ⟨g, g1, g2⟩ := hc.1 t
      exact round_two hp h.good h.low t (h2 t) g1 g2
    · have := hc.2 t
      refine ⟨fun tq => ?_, fun _ => by omega⟩
      obtain ⟨a, b, ha, hb, hab, w1, w2⟩ := tq
      exact absurd ⟨a, b, by rw [hp.n, ← h.good.n]; exact ha, by rw [hp.n, ← h.good.n]; exact hb, hab, by have := h.low a; omega, by have := h.low b; omega⟩ t
theorem Cost.start {n room : Nat} {p : Pool} (hp : Good n room p) : Cost p 6144 := by
  have a := Inv.wants hp.inv
  have b := hp.inv.sum
  have c := hp.inv.r64
  have e : psi p ≤ 5824 := by unfold psi; omega
  exact ⟨fun _ => ⟨4, gok4 p, by omega⟩, fun h => by have := tee_psi hp h; omega⟩

/-- Nothing is wanted, given, or used any more. -/
structure Over (n room : Nat) (p : Pool) : Prop where
  good : Good n room p
  free : p.free = room
  lane : ∀ i, p.lane i = ⟨0, 0, 0⟩
theorem Over.of {n room : Nat} {p : Pool} (hp : Good n room p) (h1 : p.wants = 0) (h2 : p.mays = 0) (h3 : p.useds = 0) : Over n room p := by
  refine ⟨hp, by have := hp.inv.sum; have := hp.room; omega, fun i => ?_⟩
  have a := want_le p i; have b := may_le p i; have c := used_le p i
  cases e : p.lane i with
  | mk x y z => rw [e] at a b c; simp only at a b c; congr 1 <;> omega
theorem Cost.over {n room : Nat} {p : Pool} (hp : Good n room p) (h : Cost p 0) : Over n room p := by
  have h2 : ¬ two p := fun t => by obtain ⟨g, _, h⟩ := h.1 t; omega
  have := h.2 h2
  unfold tee at this
  exact Over.of hp (by omega) (by omega) (by omega)
theorem Rnd.over {n room : Nat} {p q : Pool} (hp : Good n room p) (hr : 1 ≤ room) (h : Rnd n room p n q true) : q = p ∧ Over n room p := by
  rcases h.mv with ⟨_, e, h0⟩ | ⟨e, _⟩
  · have hz : ∀ i, i < p.lanes.length → tok p i = 0 := fun i hi => h0 i (by rw [← hp.n]; exact hi)
    have m : p.mays = 0 := sum_zero (·.may) rfl _ (fun i hi => by have := hz i hi; unfold tok at this; show (p.lane i).may = 0; omega)
    have u : p.useds = 0 := sum_zero (·.used) rfl _ (fun i hi => by have := hz i hi; unfold tok at this; show (p.lane i).used = 0; omega)
    have := hp.inv.sum; have := hp.room
    refine ⟨e, Over.of hp ?_ m u⟩
    rcases hp.tight with a | a <;> omega
  · cases e
end Go.Proofs.Ytmdhhembkmkfdaa.Cr
