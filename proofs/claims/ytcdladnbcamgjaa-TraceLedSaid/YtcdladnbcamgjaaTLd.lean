/- The walk of the statement TraceLed. -/
import Derived.Test.YtcdladnbcamgjaaLd
import Derived.Test.YtcdladnbcamgjaaBe
namespace Go.Proofs.Ytcdladnbcamgjaa.TLd
open Go Go.RowKit Go.Proofs.Ytcdladnbcamgjaa.K Go.Proofs.Ytcdladnbcamgjaa.Ev Go.Proofs.Ytcdladnbcamgjaa.Ck Go.Proofs.Ytcdladnbcamgjaa.R Go.Proofs.Ytcdladnbcamgjaa.CL Go.Proofs.Ytcdladnbcamgjaa.CW Go.Proofs.Ytcdladnbcamgjaa.Th Go.Proofs.Ytcdladnbcamgjaa.Ah Go.Proofs.Ytcdladnbcamgjaa.Ha Go.Proofs.Ytcdladnbcamgjaa.LdT Go.Proofs.Ytcdladnbcamgjaa.Ld Go.Proofs.Ytcdladnbcamgjaa.Be

set_option maxHeartbeats 8000000 in
set_option maxRecDepth 100000 in
theorem the_walk (a0 : Option Addr) (len0 cap0 : Nat) (z0 : List Int) (i0 : Int) (w : World) (hc0 : len0 ≤ cap0) (hm0 : cap0 ≤ 9223372036854775807) (r0 : IntRow w a0 z0) (e0 : z0.length = len0) :
    Calls Try.prog 17 #[.slice a0 len0 cap0, .int .i64 i0] w fun e w' => e = .returned (.bool true) ∧ Upd [] w w' := by
  have R0 := hid r0
  have E0 := hid e0
  clear r0 e0
  have U := hid (Upd.refl [] w)
  go_enter Try.func17, Try.ntmps17
  go_wp2_with fail
  refine (traceBegun_any _).mono ?_
  rintro e w0 ⟨rfl, hu⟩
  replace U := hid (U.out.trans hu (by simp)); replace R0 := hid (R0.out.upd hu)
  clear hu
  go_wp2_with fail
  refine (begun_any _).mono ?_
  rintro e w1 ⟨rfl, hu⟩
  replace U := hid (U.out.trans hu (by simp)); replace R0 := hid (R0.out.upd hu)
  clear hu
  go_wp2_with fail
  refine (hist_at a0 len0 cap0 z0 _ R0.out E0.out hc0 hm0).mono ?_
  rintro e w2 ⟨l, n, b, c, rfl, H, hn, hlc2, hc2, hu⟩
  replace U := hid (U.out.trans hu (by simp))
  clear hu R0 E0 hc0 hm0
  have HV := hid H.out.valid
  by_cases hn0 : n = 0
  · subst hn0
    go_wp2_with fail
    go_ret
    exact ⟨rfl, U.out⟩
  · go_wp2_with fail
    refine (rest_some _ _ _ (by omega) (by omega)).mono ?_
    rintro e w' ⟨i, hi, -, rfl, rfl⟩
    have hin : i < n := by omega
    have IL := hid (show i < l.length by rw [← H.out.len]; exact hin)
    go_wp2_with fail
    refine (led_at H.out i _ rfl hin).mono ?_
    rintro e w3 ⟨a, m, ca, rfl, HA, hm1, hm60, hu⟩
    replace U := hid (U.out.trans hu (by simp)); replace H := hid (H.out.upd hu)
    clear hu
    have hm0 : ((m : Int) == 0) = false := by rw [beq_eq_false_iff_ne]; omega
    go_wp2_with fail
    refine (H_clocks H.out).mono ?_
    rintro e w4 ⟨b4, c4, rfl, RC, hlc4, hc4, hu⟩
    replace U := hid (U.out.trans hu (by simp)); replace H := hid (H.out.upd hu); replace HA := hid (HA.out.upd hu)
    clear hu
    go_wp2_with fail
    refine (H_clocks HA.out).mono ?_
    rintro e w5 ⟨b5, c5, rfl, RD, hlc5, hc5, hu⟩
    replace U := hid (U.out.trans hu (by simp)); replace H := hid (H.out.upd hu); replace HA := hid (HA.out.upd hu); replace RC := hid (RC.out.upd hu)
    clear hu
    go_wp2_with fail
    refine (led_at HA.out (m - 1) _ (by omega) (by omega)).mono ?_
    rintro e w6 ⟨a6, m6, c6, rfl, HG, hg1, hg60, hu⟩
    replace U := hid (U.out.trans hu (by simp)); replace HA := hid (HA.out.upd hu); replace RC := hid (RC.out.upd hu); replace RD := hid (RD.out.upd hu)
    clear hu
    have hag := led_again HV.out IL.out
    rw [← HA.out.len] at hag
    rw [hag] at HG
    have hm6 : m6 = m := by rw [HG.out.len, HA.out.len]
    subst hm6
    have hck := led_clock HV.out IL.out
    rw [← HA.out.len] at hck
    obtain ⟨h1, g1, k1, rfl, q1, r1, s1⟩ := RC.out i IL.out
    obtain ⟨h2, g2, k2, rfl, q2, r2, s2⟩ := RD.out (m6 - 1) (by rw [← HA.out.len]; omega)
    rw [hck] at r2 s2
    have R1 := hid r1
    have R2 := hid r2
    have S1 := hid s1
    have hix : (m6 : Int) - 1 = ((m6 - 1 : Nat) : Int) := by omega
    have hmx : ((m6 - 1 : Nat) : Int) < (m6 : Int) := by omega
    have hwr : IntKind.i64.wrap ((m6 : Int) - 1) = ((m6 - 1 : Nat) : Int) := by rw [hix]; exact IntWalk.i64_in _ (by omega)
    have eqE : ∀ k, Calls Try.prog 48 #[.slice a6 m6 c6, .slice a m6 ca] (w6.drewN k) fun e w' => e = .returned (.bool true) ∧ ∃ q, w' = (w6.drewN k).drewN q := fun k =>
      equal_ev a6 a m6 c6 ca (ledL l i) _ (HG.out.row.upd ((Upd.refl [] w6).drewN k)) (HA.out.row.upd ((Upd.refl [] w6).drewN k)) HA.out.len.symm (by omega)
    have eqI : ∀ k, Calls Try.prog 30 #[.slice (some ⟨g1, 0, none⟩) 8 k1, .slice (some ⟨g2, 0, none⟩) 8 k2] (w6.drewN k) fun e w' => e = .returned (.bool true) ∧ ∃ q, w' = (w6.drewN k).drewN q := fun k => by
      have := EQ.equal_any (some ⟨g1, 0, none⟩) 8 k1 (clockAt l i) (some ⟨g2, 0, none⟩) 8 k2 (clockAt l i) (w6.drewN k) (R1.out.upd ((Upd.refl [] w6).drewN k)) S1.out (R2.out.upd ((Upd.refl [] w6).drewN k)) S1.out (by omega) (by omega)
      rw [decide_eq_true rfl] at this
      exact this
    have EE := hid eqE
    have EI := hid eqI
    clear eqE eqI r1 r2 s1 s2 hag hck hix
    go_wp2_with fail
    go_quiet (first | (go_at_call 48; exact Calls.quiet_of (EE.out _)) | (go_at_call 30; exact Calls.quiet_of (EI.out _)))
    go_wp2_with fail
    go_ret
    exact ⟨rfl, U.out.drewN _⟩
end Go.Proofs.Ytcdladnbcamgjaa.TLd
