/- The walk of the statement ClockNumbers. -/
import Derived.Test.YtcdladnbcamgjaaNu
import Derived.Test.YtcdladnbcamgjaaCkOrd
import Derived.Test.YtcdladnbcamgjaaLh
namespace Go.Proofs.Ytcdladnbcamgjaa.CkNum
open Go Go.RowKit Go.Proofs.Ytcdladnbcamgjaa.K Go.Proofs.Ytcdladnbcamgjaa.M Go.Proofs.Ytcdladnbcamgjaa.Ev Go.Proofs.Ytcdladnbcamgjaa.Ck Go.Proofs.Ytcdladnbcamgjaa.O Go.Proofs.Ytcdladnbcamgjaa.R Go.Proofs.Ytcdladnbcamgjaa.CL Go.Proofs.Ytcdladnbcamgjaa.CW Go.Proofs.Ytcdladnbcamgjaa.Th Go.Proofs.Ytcdladnbcamgjaa.Ah Go.Proofs.Ytcdladnbcamgjaa.Hi Go.Proofs.Ytcdladnbcamgjaa.CkOrd Go.Proofs.Ytcdladnbcamgjaa.Nu Go.Proofs.Ytcdladnbcamgjaa.Lh

set_option maxHeartbeats 8000000 in
set_option maxRecDepth 100000 in
theorem numbers_walk (a : Option Addr) (len cap : Nat) (xs : List Int) (w : World) (hx : IntRow w a xs) (hl : xs.length = len) (hlc : len ≤ cap) (hc : cap ≤ 9223372036854775807) :
    Calls Try.prog 6 #[.slice a len cap] w fun e w' => e = .returned (.bool true) ∧ Upd [] w w' := by
  have HX := hid hx
  have HL := hid hl
  clear hx hl
  go_enter Try.func6, Try.ntmps6
  go_wp2_with fail
  refine (begun_any _).mono ?_
  rintro e w1 ⟨rfl, hu⟩
  have HU1 := hid hu
  clear hu
  go_wp2_with fail
  refine (hist_short a len cap xs _ (HX.out.upd HU1.out) HL.out hlc hc).mono ?_
  rintro e w2 ⟨l, b, c, rfl, HE, hlc2, hc2, HV, hn, hu⟩
  have HU2 := hid (HU1.out.trans hu (by simp))
  clear hu HX HL hlc hc HU1
  have nu := numbers_any b c l w2 HE.out hlc2 hc2 (by omega) HV.out
  have cr := fun (w3 : World) (hu : Upd [] w2 w3) => clocks_rows b c l w3 (HE.out.upd hu) hlc2 hc2 (by omega) HV.out
  obtain ⟨n, hnl⟩ : ∃ n, n = l.length := ⟨_, rfl⟩
  rw [← hnl] at hlc2 hn nu cr ⊢
  have HN := hid hnl
  have CR := hid cr
  clear hnl cr
  go_wp2_with fail
  refine nu.mono ?_
  rintro e w3 ⟨b3, c3, rfl, hr3, -, -, hu3⟩
  have HR3 := hid hr3
  have U3 := hid hu3
  clear nu hr3 hu3
  go_wp2_with fail
  refine (CR.out w3 U3.out).mono ?_
  rintro e w4 ⟨b4, c4, rfl, hr4, hlc4, hc4, hu4⟩
  have HR4 := hid hr4
  have HN4 := hid (HR3.out.upd hu4)
  have U4 := hid ((HU2.out.trans U3.out (by simp)).trans hu4 (by simp))
  clear hr4 hu4 CR HR3 U3 HU2
  go_wp2_with fail
  go_loopg [46] n (fun d v46 wr => ∃ (i : Nat), v46 = .int .i64 (i : Int) ∧ Hid (i + d = n) ∧ Hid (Upd [] w4 wr))
  case atStart => exact ⟨0, rfl, by show _ = _; omega, Upd.refl _ _⟩
  case round =>
    obtain ⟨i, rfl, Hi, Hu⟩ := hrel
    by_cases hi : i < n
    · go_wp2_with fail
      go_loopg [50] i (fun d v50 wr => ∃ (k : Nat), v50 = .int .i64 (k : Int) ∧ Hid (k + d = i) ∧ Hid (Upd [] w4 wr))
      case atStart => exact ⟨0, rfl, by show _ = _; omega, Hu.out⟩
      case round =>
        clear Hu
        obtain ⟨k, rfl, Hk, Hu⟩ := hrel
        by_cases hk : k < i
        · have hil : i < l.length := by rw [← HN.out]; exact hi
          have hkl : k < l.length := by rw [← HN.out]; omega
          obtain ⟨h1, g1, c1, e1, r1, r2, r3⟩ := HR4.out.upd Hu.out i hil
          obtain ⟨h2, g2, c2, e2, s1, s2, s3⟩ := HR4.out.upd Hu.out k hkl
          cases e1
          cases e2
          obtain ⟨x, e3, n1⟩ := HN4.out.upd Hu.out i (by rw [nums_length]; exact hi)
          obtain ⟨x', e4, n2⟩ := HN4.out.upd Hu.out k (by rw [nums_length]; omega)
          cases e3
          cases e4
          rw [nums_get _ _ _ hi] at n1
          rw [nums_get _ _ _ (by omega)] at n2
          have hno : lessL (clockAt l i) (clockAt l k) = false := by
            rw [Bool.eq_false_iff]; intro h; have := ahead_lt HV.out hil hkl h; omega
          have hnum : lessL (clockAt l k) (clockAt l i) = true → numAt l k < numAt l i := fun h => ahead_num HV.out hkl hil h
          obtain ⟨p, hp⟩ : ∃ p, p = numAt l i := ⟨_, rfl⟩
          obtain ⟨q, hq⟩ : ∃ q, q = numAt l k := ⟨_, rfl⟩
          rw [← hp] at n1 hnum
          rw [← hq] at n2 hnum
          have R2 := hid r2
          have R3 := hid r3
          have S2 := hid s2
          have S3 := hid s3
          have HNO := hid hno
          have HNUM := hid hnum
          clear r2 r3 s2 s3 hno hnum hp hq hil hkl
          obtain ⟨A, hA⟩ : ∃ A, lessL (clockAt l k) (clockAt l i) = A := ⟨_, rfl⟩
          have HA := hid hA
          rw [hA] at HNUM
          clear hA
          cases A with
          | false =>
            go_wp2_with fail
            go_quiet ((go_at_call 26; exact Calls.quiet_of_same (less_h (by assumption) (by assumption) (by assumption) (by assumption) (by assumption))))
            go_wp2_with fail
            go_roundg (i - (k + 1))
            case measure => have := Hk.out; omega
            case rel => exact ⟨k + 1, by go_num, by show _ = _; omega, Hu.out.drewN _⟩
          | true =>
            have hlt := HNUM.out rfl
            have hge : decide (p ≤ q) = false := by rw [decide_eq_false_iff_not]; omega
            clear hlt
            go_wp2_with fail
            go_quiet ((go_at_call 26; exact Calls.quiet_of_same (less_h (by assumption) (by assumption) (by assumption) (by assumption) (by assumption))))
            go_wp2_with fail
            go_roundg (i - (k + 1))
            case measure => have := Hk.out; omega
            case rel => exact ⟨k + 1, by go_num, by show _ = _; omega, Hu.out.drewN _⟩
        · have hki : k = i := by have := Hk.out; omega
          subst hki
          go_wp2_with fail
          go_roundg (n - (k + 1))
          case measure => have := Hi.out; omega
          case rel => exact ⟨k + 1, by go_num, by show _ = _; omega, Hu.out⟩
    · go_wp2_with fail
      go_ret
      exact ⟨rfl, U4.out.trans Hu.out (by simp)⟩
end Go.Proofs.Ytcdladnbcamgjaa.CkNum
