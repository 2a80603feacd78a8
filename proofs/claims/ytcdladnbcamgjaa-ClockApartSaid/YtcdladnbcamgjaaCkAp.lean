/- The walks of clock.Apart and of the statement ClockApart. -/
import Derived.Test.YtcdladnbcamgjaaApT
import Derived.Test.YtcdladnbcamgjaaLh
import Derived.Test.YtcdladnbcamgjaaCkOrd
namespace Go.Proofs.Ytcdladnbcamgjaa.CkAp
open Go Go.RowKit Go.Proofs.Ytcdladnbcamgjaa.K Go.Proofs.Ytcdladnbcamgjaa.M Go.Proofs.Ytcdladnbcamgjaa.Ev Go.Proofs.Ytcdladnbcamgjaa.Ck Go.Proofs.Ytcdladnbcamgjaa.O Go.Proofs.Ytcdladnbcamgjaa.R Go.Proofs.Ytcdladnbcamgjaa.CL Go.Proofs.Ytcdladnbcamgjaa.CW Go.Proofs.Ytcdladnbcamgjaa.Th Go.Proofs.Ytcdladnbcamgjaa.Ah Go.Proofs.Ytcdladnbcamgjaa.Hi Go.Proofs.Ytcdladnbcamgjaa.CkOrd Go.Proofs.Ytcdladnbcamgjaa.ApT Go.Proofs.Ytcdladnbcamgjaa.Lh

theorem pairs_fin (i x y : Nat) (h : 2 * (x + y) + i = i * i) (hx : x ≤ 50000) (hy : y ≤ 50000) : ((x : Int) + (y : Int) == wrap64 ((wrap64 ((i : Int) * ((i : Int) - 1))).tdiv 2)) = true := by
  have e : (i : Int) * ((i : Int) - 1) = 2 * ((x : Int) + (y : Int)) := by
    have h2 : ((i * i : Nat) : Int) = (i : Int) * (i : Int) := Int.natCast_mul i i
    rw [Int.mul_sub, Int.mul_one]
    omega
  rw [e]
  have e2 : wrap64 (2 * ((x : Int) + (y : Int))) = 2 * ((x : Int) + (y : Int)) := by unfold wrap64; omega
  rw [e2, Int.mul_tdiv_cancel_left _ (by decide), beq_iff_eq]
  unfold wrap64; omega

set_option maxHeartbeats 4000000 in
set_option maxRecDepth 100000 in
theorem apart_any (a : Option Addr) (cap : Nat) (l : List Ev) (w : World) (hx : EvRow w a l) (hlc : l.length ≤ cap) (hc : cap ≤ 9223372036854775807) (hn : l.length ≤ 200) (hv : Valid l) :
    Calls Try.prog 23 #[.slice a l.length cap] w fun e w' => ∃ x : Nat, e = .returned (.tuple #[.int .i64 (x : Int), .int .i64 0]) ∧ x ≤ 50000 ∧ Hid (x = apartN l l.length) ∧ Upd [] w w' := by
  obtain ⟨n, hnl⟩ : ∃ n, n = l.length := ⟨_, rfl⟩
  have cr := clocks_rows a cap l w hx hlc hc hn hv
  rw [← hnl] at cr hn hlc ⊢
  have HN := hid hnl
  have HV := hid hv
  clear hnl hx hv
  go_enter Try.func23, Try.ntmps23
  go_wp2_with fail
  refine cr.mono ?_
  rintro e w1 ⟨b, c, rfl, hr, hlc1, hc1, hu⟩
  have HR := hid hr
  have HU := hid hu
  clear cr hr hu
  go_wp2_with fail
  go_loopg [6, 19] n (fun d v6 v19 wr => ∃ (i x : Nat), v6 = .int .i64 (x : Int) ∧ v19 = .int .i64 (i : Int) ∧ x ≤ 50000 ∧ i ≤ n ∧ Hid (i + d = n) ∧ Hid (x = apartN l i) ∧ Hid (Upd [] w1 wr))
  case atStart => exact ⟨0, 0, rfl, rfl, by omega, by omega, by show _ = _; omega, rfl, Upd.refl _ _⟩
  case round =>
    obtain ⟨i, x0, rfl, rfl, hx0, hin, Hi, Hx0, Hu⟩ := hrel
    by_cases hi : i < n
    · go_wp2_with fail
      go_loopg [6, 23] i (fun d v6 v23 wr => ∃ (k x : Nat), v6 = .int .i64 (x : Int) ∧ v23 = .int .i64 (k : Int) ∧ x ≤ 50000 ∧ k ≤ i ∧ Hid (k + d = i) ∧ Hid (x + led l i k = apartN l i + k) ∧ Hid (Upd [] w1 wr))
      case atStart => exact ⟨0, x0, rfl, rfl, hx0, by omega, by show _ = _; omega, by show _ = _; rw [Hx0.out]; rfl, Hu.out⟩
      case round =>
        clear Hu
        obtain ⟨k, x, rfl, rfl, hx1, hki, Hk, Hx, Hu⟩ := hrel
        by_cases hk : k < i
        · have hil : i < l.length := by rw [← HN.out]; exact hi
          have hkl : k < l.length := by rw [← HN.out]; omega
          have fin : ∀ x' : Nat, x' + led l i (k + 1) = apartN l i + (k + 1) → x' ≤ 50000 := fun x' h => by
            have := (apart_le l i).1
            have := Nat.mul_le_mul (show i ≤ 200 by omega) (show i ≤ 200 by omega)
            omega
          have FIN := hid fin
          obtain ⟨h1, g1, c1, e1, r1, r2, r3⟩ := HR.out.upd Hu.out i hil
          obtain ⟨h2, g2, c2, e2, s1, s2, s3⟩ := HR.out.upd Hu.out k hkl
          cases e1
          cases e2
          have hno : lessL (clockAt l i) (clockAt l k) = false := by
            rw [Bool.eq_false_iff]; intro h; have := ahead_lt HV.out hil hkl h; omega
          obtain ⟨A, hA⟩ : ∃ A, lessL (clockAt l k) (clockAt l i) = A := ⟨_, rfl⟩
          have R2 := hid r2
          have R3 := hid r3
          have S2 := hid s2
          have S3 := hid s3
          have HNO := hid hno
          have HA := hid hA
          clear r2 r3 s2 s3 hno hA hil hkl fin
          cases A with
          | false =>
            go_wp2_with fail
            go_quiet ((go_at_call 26; exact Calls.quiet_of_same (less_h (by assumption) (by assumption) (by assumption) (by assumption) (by assumption))))
            go_wp2_with fail
            go_roundg (i - (k + 1))
            case measure => have := Hk.out; omega
            case rel =>
              have e : (x + 1) + led l i (k + 1) = apartN l i + (k + 1) := by
                have := Hx.out
                have h : aheadL l k i = false := HA.out
                simp only [led, h, Bool.false_eq_true, if_false]; omega
              exact ⟨k + 1, x + 1, by go_num, by go_num, FIN.out _ e, by omega, by show _ = _; omega, e, Hu.out.drewN _⟩
          | true =>
            go_wp2_with fail
            go_quiet ((go_at_call 26; exact Calls.quiet_of_same (less_h (by assumption) (by assumption) (by assumption) (by assumption) (by assumption))))
            go_wp2_with fail
            go_roundg (i - (k + 1))
            case measure => have := Hk.out; omega
            case rel =>
              have e : x + led l i (k + 1) = apartN l i + (k + 1) := by
                have := Hx.out
                have h : aheadL l k i = true := HA.out
                simp only [led, h, if_true]; omega
              exact ⟨k + 1, x, rfl, by go_num, FIN.out _ e, by omega, by show _ = _; omega, e, Hu.out.drewN _⟩
        · obtain rfl : k = i := by omega
          go_wp2_with fail
          go_roundg (n - (k + 1))
          case measure => have := Hi.out; omega
          case rel =>
            have e : x = apartN l (k + 1) := by
              have := Hx.out
              have := led_le l k k
              simp only [apartN]; omega
            exact ⟨k + 1, x, rfl, by go_num, hx1, by omega, by show _ = _; omega, e, Hu.out⟩
    · obtain rfl : i = n := by omega
      go_wp2_with fail
      go_ret2
      exact ⟨x0, rfl, hx0, by show _ = _; rw [Hx0.out, HN.out], HU.out.trans Hu.out (by simp)⟩

set_option maxHeartbeats 8000000 in
set_option maxRecDepth 100000 in
theorem apart_walk (a : Option Addr) (len cap : Nat) (xs : List Int) (w : World) (hx : IntRow w a xs) (hl : xs.length = len) (hlc : len ≤ cap) (hc : cap ≤ 9223372036854775807) :
    Calls Try.prog 5 #[.slice a len cap] w fun e w' => e = .returned (.bool true) ∧ Upd [] w w' := by
  have HX := hid hx
  have HL := hid hl
  clear hx hl
  go_enter Try.func5, Try.ntmps5
  go_wp2_with fail
  refine (begun_any _).mono ?_
  rintro e w1 ⟨rfl, hu⟩
  have HU1 := hid hu
  clear hu
  go_wp2_with fail
  refine (hist_short a len cap xs _ (HX.out.upd HU1.out) HL.out hlc hc).mono ?_
  rintro e w2 ⟨l, b, c, rfl, HE, hlc2, hc2, HV, hn, hu⟩
  have HU2 := hid (HU1.out.trans hu (by simp))
  clear hu HX HL hlc hc HU1
  have ap := apart_any b c l w2 HE.out hlc2 hc2 (by omega) HV.out
  have cr := fun (w3 : World) (hu : Upd [] w2 w3) => clocks_rows b c l w3 (HE.out.upd hu) hlc2 hc2 (by omega) HV.out
  obtain ⟨n, hnl⟩ : ∃ n, n = l.length := ⟨_, rfl⟩
  rw [← hnl] at hlc2 hn ap cr ⊢
  have HN := hid hnl
  have CR := hid cr
  clear hnl cr
  go_wp2_with fail
  refine ap.mono ?_
  rintro e w3 ⟨x, rfl, hx, HX, hu3⟩
  have U3 := hid hu3
  clear ap hu3
  go_wp2_with fail
  refine (CR.out w3 U3.out).mono ?_
  rintro e w4 ⟨b4, c4, rfl, hr4, hlc4, hc4, hu4⟩
  have HR4 := hid hr4
  have U4 := hid ((HU2.out.trans U3.out (by simp)).trans hu4 (by simp))
  clear hr4 hu4 CR U3 HU2
  go_wp2_with fail
  go_loopg [8, 43] n (fun d v8 v43 wr => ∃ (i y : Nat), v8 = .int .i64 (y : Int) ∧ v43 = .int .i64 (i : Int) ∧ y ≤ 4000 ∧ i ≤ n ∧ Hid (i + d = n) ∧ Hid (y = ledN l i) ∧ Hid (Upd [] w4 wr))
  case atStart => exact ⟨0, 0, rfl, rfl, by omega, by omega, by show _ = _; omega, rfl, Upd.refl _ _⟩
  case round =>
    obtain ⟨i, y, rfl, rfl, hy, hin, Hi, Hy, Hu⟩ := hrel
    by_cases hi : i < n
    · have hil : i < l.length := by rw [← HN.out]; exact hi
      obtain ⟨h1, g1, c1, e1, r1, r2, r3⟩ := HR4.out.upd Hu.out i hil
      cases e1
      have hs := clock_sum HV.out hil
      have hb : ∀ p, 0 ≤ (clockAt l i).getD p 0 ∧ (clockAt l i).getD p 0 ≤ 60 := fun p => by
        have f := clk_fine (sound_take HV.out i (by omega)) (HV.out i hil)
        have := f.low p
        have h2 := f.high p
        simp only [List.length_take] at h2
        show 0 ≤ ((stOf (l.take i)).clk (l.getD i noEv)).getD p 0 ∧ _
        exact ⟨this, by show ((stOf (l.take i)).clk (l.getD i noEv)).getD p 0 ≤ 60; have := HN.out; omega⟩
      have R2 := hid r2
      have R3 := hid r3
      have HS := hid hs
      have HB := hid hb
      clear r2 r3 hs hb hil
      go_wp2_with fail
      go_loopg [11, 50] 8 (fun d v11 v50 wq => ∃ (k : Nat) (s : Int), v11 = .int .i64 s ∧ v50 = .int .i64 (k : Int) ∧ 0 ≤ s ∧ s ≤ 480 ∧ k ≤ 8 ∧ Hid (k + d = 8) ∧ Hid (s = ((clockAt l i).take k).sum) ∧ Hid (Upd [] wr wq))
      case atStart => exact ⟨0, 0, rfl, rfl, by omega, by omega, by omega, by show _ = _; omega, by show _ = _; simp, Upd.refl _ _⟩
      case round =>
        obtain ⟨k, s, rfl, rfl, hs0, hs1, hk8, Hk, Hs, Hq⟩ := hrel
        by_cases hk : k < 8
        · obtain ⟨z, e2, hcz⟩ := (R2.out.upd Hq.out) k (by rw [R3.out]; exact hk)
          cases e2
          rw [show (⟨g1, 0, none⟩ : Addr).add k = ⟨g1, k, none⟩ by unfold Addr.add; split <;> simp_all] at hcz
          obtain ⟨v, hv⟩ : ∃ v, v = (clockAt l i).getD k 0 := ⟨_, rfl⟩
          have hvb := HB.out k
          rw [← hv] at hcz hvb
          obtain ⟨hv0, hv1⟩ := hvb
          have HVV := hid hv
          clear hv
          have hk' : (k : Int) < 8 := by omega
          go_wp2_with fail
          go_roundg (8 - (k + 1))
          case measure => have := Hk.out; omega
          case rel =>
            have e : s + v = ((clockAt l i).take (k + 1)).sum := by rw [sum_take_succ _ k (by rw [R3.out]; exact hk), Hs.out, HVV.out]
            have b := sum_take_bound (xs := clockAt l i) (b := 60) (by omega) HB.out (k + 1) (by rw [R3.out]; omega)
            rw [← e] at b
            exact ⟨k + 1, s + v, by go_num, by go_num, by omega, by omega, by omega, by show _ = _; omega, e, Hq.out⟩
        · obtain rfl : k = 8 := by omega
          have hsum : s = (led l i i : Int) + 1 := by
            rw [Hs.out, List.take_of_length_le (by rw [R3.out]; exact Nat.le_refl _), HS.out]
          have hle := led_le l i i
          obtain ⟨L, hL⟩ : ∃ L, L = led l i i := ⟨_, rfl⟩
          rw [← hL] at hsum hle
          have HL := hid hL
          subst hsum
          have hyy : y + L ≤ 4000 := by
            have := (apart_le l (i + 1)).2
            have hm := Nat.mul_le_mul (show i + 1 ≤ 60 by omega) (show i + 1 ≤ 60 by omega)
            simp only [ledN] at this
            rw [HL.out, Hy.out]; omega
          clear hL
          have t1 : decide ((L : Int) + 1 < 1) = false := by rw [decide_eq_false_iff_not]; omega
          have t2 : decide ((i : Int) + 1 < (L : Int) + 1) = false := by rw [decide_eq_false_iff_not]; omega
          go_wp2_with fail
          go_roundg (n - (i + 1))
          case measure => have := Hi.out; omega
          case rel =>
            exact ⟨i + 1, y + L, by go_num, by go_num, hyy, by omega, by show _ = _; omega, by show _ = _; rw [HL.out, Hy.out]; rfl, Hu.out.trans Hq.out (by simp)⟩
    · obtain rfl : i = n := by omega
      have hp := pairs l i
      rw [← Hy.out] at hp
      have e : apartN l i = x := by rw [HX.out, HN.out]
      rw [e] at hp
      have HP := hid hp
      clear hp e
      go_wp2_with fail
      go_ret
      refine ⟨ret_bool ?_, U4.out.trans Hu.out (by simp)⟩
      exact pairs_fin i x y HP.out (by omega) (by omega)
end Go.Proofs.Ytcdladnbcamgjaa.CkAp
