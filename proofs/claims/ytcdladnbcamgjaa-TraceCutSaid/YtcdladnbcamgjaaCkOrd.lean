/- The walk of the statement ClockOrder. -/
import Derived.Test.YtcdladnbcamgjaaAh
namespace Go.Proofs.Ytcdladnbcamgjaa.CkOrd
open Go Go.RowKit Go.Proofs.Ytcdladnbcamgjaa.K Go.Proofs.Ytcdladnbcamgjaa.M Go.Proofs.Ytcdladnbcamgjaa.Ev Go.Proofs.Ytcdladnbcamgjaa.Ck Go.Proofs.Ytcdladnbcamgjaa.O Go.Proofs.Ytcdladnbcamgjaa.R Go.Proofs.Ytcdladnbcamgjaa.CL Go.Proofs.Ytcdladnbcamgjaa.CW Go.Proofs.Ytcdladnbcamgjaa.Th Go.Proofs.Ytcdladnbcamgjaa.Ah Go.Proofs.Ytcdladnbcamgjaa.Hi

/-- A history, as the laws begin: what they all need of it. -/
theorem hist_short (a : Option Addr) (len cap : Nat) (xs : List Int) (w : World) (hx : IntRow w a xs) (hl : xs.length = len) (hlc : len ≤ cap) (hc : cap ≤ 9223372036854775807) :
    Calls Try.prog 20 #[.slice a len cap] w fun e w' => ∃ (l : List Ev) (a' : Option Addr) (cap' : Nat), e = .returned (.slice a' l.length cap') ∧ Hid (EvRow w' a' l) ∧ l.length ≤ cap' ∧ cap' ≤ 9223372036854775807 ∧ Hid (Valid l) ∧ l.length ≤ 60 ∧ Upd [] w w' :=
  (hist_any a len cap xs w hx hl hlc hc).mono fun _ _ ⟨l, a', cap', h1, h2, h3, h4, h5, _, h7, h8⟩ => ⟨l, a', cap', h1, h2, h3, h4, h5, by omega, h8⟩

set_option maxHeartbeats 8000000 in
set_option maxRecDepth 100000 in
theorem order_walk (a : Option Addr) (len cap : Nat) (xs : List Int) (i0 j0 k0 : Int) (w : World) (hx : IntRow w a xs) (hl : xs.length = len) (hlc : len ≤ cap) (hc : cap ≤ 9223372036854775807) :
    Calls Try.prog 3 #[.slice a len cap, .int .i64 i0, .int .i64 j0, .int .i64 k0] w fun e w' => e = .returned (.bool true) ∧ Upd [] w w' := by
  have HX := hid hx
  have HL := hid hl
  clear hx hl
  go_enter Try.func3, Try.ntmps3
  go_wp2_with fail
  refine (begun_any _).mono ?_
  rintro e w1 ⟨rfl, hu⟩
  have HU1 := hid hu
  clear hu
  go_wp2_with fail
  refine (hist_short a len cap xs _ (HX.out.upd HU1.out) HL.out hlc hc).mono ?_
  rintro e w2 ⟨l, b, c, rfl, HE, hlc2, hc2, HV, hn, hu⟩
  have HU2 := hid (HU1.out.trans hu (by simp))
  clear hu HX HL hlc hc HU1
  obtain ⟨n, hnl⟩ : ∃ n, n = l.length := ⟨_, rfl⟩
  rw [← hnl] at hlc2 hn ⊢
  have HN := hid hnl
  clear hnl
  by_cases hn0 : n = 0
  · subst hn0
    go_wp2_with fail
    go_ret
    exact ⟨rfl, HU2.out⟩
  · go_wp2_with fail
    refine (rest_some _ _ _ (by omega) (by omega)).mono ?_
    rintro e w' ⟨i, hi, -, rfl, rfl⟩
    go_wp2_with fail
    refine (rest_some _ _ _ (by omega) (by omega)).mono ?_
    rintro e w' ⟨j, hj, -, rfl, rfl⟩
    go_wp2_with fail
    refine (rest_some _ _ _ (by omega) (by omega)).mono ?_
    rintro e w' ⟨k, hk, -, rfl, rfl⟩
    have hi' := hid (show i < l.length by rw [← HN.out]; omega)
    have hj' := hid (show j < l.length by rw [← HN.out]; omega)
    have hk' := hid (show k < l.length by rw [← HN.out]; omega)
    have A : ∀ (p q : Nat), Hid (p < l.length) → Hid (q < l.length) → ∀ w3, Upd [] w2 w3 → Calls Try.prog 22 #[.slice b n c, .int .i64 (p : Int), .int .i64 (q : Int)] w3 fun e w' => e = .returned (.tuple #[.bool (aheadL l p q), .int .i64 0]) ∧ Upd [] w3 w' := fun p q hp hq w3 hu3 => by
      have := ahead_any b c l p q w3 (HE.out.upd hu3) (by rw [← HN.out]; exact hlc2) hc2 (by rw [← HN.out]; omega) HV.out hp.out hq.out
      rw [← HN.out] at this; exact this
    have HA := hid A
    clear A
    go_wp2_with fail
    refine (HA.out i j hi' hj' w2 (Upd.refl _ _)).mono ?_
    rintro e w3 ⟨rfl, hu3⟩
    have V3 := hid hu3
    clear hu3
    go_wp2_with fail
    refine (HA.out j k hj' hk' w3 V3.out).mono ?_
    rintro e w4 ⟨rfl, hu4⟩
    have V4 := hid (V3.out.trans hu4 (by simp))
    clear hu4
    go_wp2_with fail
    refine (HA.out i k hi' hk' w4 V4.out).mono ?_
    rintro e w5 ⟨rfl, hu5⟩
    have V5 := hid (V4.out.trans hu5 (by simp))
    clear hu5
    go_wp2_with fail
    refine (HA.out j i hj' hi' w5 V5.out).mono ?_
    rintro e w6 ⟨rfl, hu6⟩
    have V6 := hid (V5.out.trans hu6 (by simp))
    clear hu6 V3 V4 V5 HA
    obtain ⟨gi, e1, pi, -, -⟩ := HE.out.upd V6.out i hi'.out
    obtain ⟨gj, e2, pj, -, -⟩ := HE.out.upd V6.out j hj'.out
    subst e1
    cases e2
    have fin1 : aheadL l i j = true → aheadL l j k = true → aheadL l i k = true := ahead_trans HV.out hi'.out hj'.out hk'.out
    have fin2 : aheadL l i j = true → aheadL l j i = false := fun h => by
      rw [Bool.eq_false_iff]; intro g
      have := ahead_lt HV.out hi'.out hj'.out h
      have := ahead_lt HV.out hj'.out hi'.out g
      omega
    have fin3 : aheadL l i j = true → i < j := ahead_lt HV.out hi'.out hj'.out
    have fin4 : (l.getD i noEv).place = (l.getD j noEv).place → aheadL l i j = decide (i < j) := ahead_place HV.out hi'.out hj'.out
    obtain ⟨p, hp⟩ : ∃ p, p = (l.getD i noEv).place := ⟨_, rfl⟩
    obtain ⟨q, hq⟩ : ∃ q, q = (l.getD j noEv).place := ⟨_, rfl⟩
    rw [← hp] at pi fin4
    rw [← hq] at pj fin4
    clear hp hq
    revert fin1 fin2 fin3 fin4
    generalize aheadL l i j = A
    generalize aheadL l j k = B
    generalize aheadL l i k = C
    generalize aheadL l j i = D
    intro fin1 fin2 fin3 fin4
    have hdij : decide (i < j) = decide ((i : Int) < (j : Int)) := by simp
    cases A with
    | false =>
      clear fin1 fin2 fin3
      by_cases hpq : p = q
      · have hd := fin4 hpq
        have hge : decide ((i : Int) < (j : Int)) = false := by rw [← hdij, ← hd]
        have HD := hid hd
        subst hpq
        clear fin4 hd hdij
        go_wp2_with fail
        go_quiet (fail)
        go_wp2_with fail
        go_ret
        exact ⟨ret_bool (by rw [← HD.out]; rfl), (HU2.out.trans V6.out (by simp)).drewN _⟩
      · have hne : ((p : Int) != (q : Int)) = true := by rw [bne_iff_ne]; omega
        clear fin4 hdij
        go_wp2_with fail
        go_quiet (fail)
        go_wp2_with fail
        go_ret
        exact ⟨rfl, (HU2.out.trans V6.out (by simp)).drewN _⟩
    | true =>
      have hD := fin2 rfl
      have hlt := fin3 rfl
      have hBC := fin1 rfl
      subst hD
      clear fin1 fin2 fin3
      have hge : decide ((j : Int) ≤ (i : Int)) = false := by rw [decide_eq_false_iff_not]; omega
      have hlt' : decide ((i : Int) < (j : Int)) = true := by rw [decide_eq_true_eq]; omega
      cases B with
      | false =>
        clear hBC
        by_cases hpq : p = q
        · subst hpq
          clear fin4 hdij
          go_wp2_with fail
          go_quiet (fail)
          go_wp2_with fail
          go_ret
          exact ⟨rfl, (HU2.out.trans V6.out (by simp)).drewN _⟩
        · have hne : ((p : Int) != (q : Int)) = true := by rw [bne_iff_ne]; omega
          clear fin4 hdij
          go_wp2_with fail
          go_quiet (fail)
          go_wp2_with fail
          go_ret
          exact ⟨rfl, (HU2.out.trans V6.out (by simp)).drewN _⟩
      | true =>
        have hC := hBC rfl
        subst hC
        clear hBC
        by_cases hpq : p = q
        · subst hpq
          clear fin4 hdij
          go_wp2_with fail
          go_quiet (fail)
          go_wp2_with fail
          go_ret
          exact ⟨rfl, (HU2.out.trans V6.out (by simp)).drewN _⟩
        · have hne : ((p : Int) != (q : Int)) = true := by rw [bne_iff_ne]; omega
          clear fin4 hdij
          go_wp2_with fail
          go_quiet (fail)
          go_wp2_with fail
          go_ret
          exact ⟨rfl, (HU2.out.trans V6.out (by simp)).drewN _⟩
end Go.Proofs.Ytcdladnbcamgjaa.CkOrd
