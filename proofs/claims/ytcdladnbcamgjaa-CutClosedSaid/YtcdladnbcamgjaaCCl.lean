/- The walk of the statement CutClosed. -/
import Derived.Test.YtcdladnbcamgjaaHa
namespace Go.Proofs.Ytcdladnbcamgjaa.CCl
open Go Go.RowKit Go.Proofs.Ytcdladnbcamgjaa.K Go.Proofs.Ytcdladnbcamgjaa.Ev Go.Proofs.Ytcdladnbcamgjaa.R Go.Proofs.Ytcdladnbcamgjaa.CL Go.Proofs.Ytcdladnbcamgjaa.CW Go.Proofs.Ytcdladnbcamgjaa.Th Go.Proofs.Ytcdladnbcamgjaa.Cu Go.Proofs.Ytcdladnbcamgjaa.CuT Go.Proofs.Ytcdladnbcamgjaa.Cv Go.Proofs.Ytcdladnbcamgjaa.Cw Go.Proofs.Ytcdladnbcamgjaa.Ha

set_option maxHeartbeats 8000000 in
set_option maxRecDepth 100000 in
theorem the_walk (a0 : Option Addr) (len0 cap0 : Nat) (z0 : List Int) (a1 : Option Addr) (len1 cap1 : Nat) (z1 : List Int) (a2 : Option Addr) (len2 cap2 : Nat) (z2 : List Int) (w : World) (hc0 : len0 ≤ cap0) (hm0 : cap0 ≤ 9223372036854775807) (r0 : IntRow w a0 z0) (e0 : z0.length = len0) (r1 : IntRow w a1 z1) (e1 : z1.length = len1) (r2 : IntRow w a2 z2) (e2 : z2.length = len2) :
    Calls Try.prog 10 #[.slice a0 len0 cap0, .slice a1 len1 cap1, .slice a2 len2 cap2] w fun e w' => e = .returned (.bool true) ∧ Upd [] w w' := by
  have R0 := hid r0; have E0 := hid e0
  have R1 := hid r1; have E1 := hid e1
  have R2 := hid r2; have E2 := hid e2
  clear r0 e0 r1 e1 r2 e2
  have U := hid (Upd.refl [] w)
  go_enter Try.func10, Try.ntmps10
  go_wp2_with fail
  refine (cutBegun_any _).mono ?_
  rintro e w1 ⟨rfl, hu⟩
  replace U := hid (U.out.trans hu (by simp)); replace R0 := hid (R0.out.upd hu); replace R1 := hid (R1.out.upd hu); replace R2 := hid (R2.out.upd hu)
  clear hu
  go_wp2_with fail
  refine (hist_at a0 len0 cap0 z0 _ R0.out E0.out hc0 hm0).mono ?_
  rintro e w2 ⟨l, n, b, c, rfl, H, hn, hlc2, hc2, hu⟩
  replace U := hid (U.out.trans hu (by simp)); replace R1 := hid (R1.out.upd hu); replace R2 := hid (R2.out.upd hu)
  clear hu R0
  clear E0 hc0 hm0
  have HV := hid H.out.valid
  go_wp2_with fail
  refine (H_cut H.out cap1 R1.out E1.out).mono ?_
  rintro e w3 ⟨C, kC, rfl, K, hu⟩
  replace U := hid (U.out.trans hu (by simp)); replace R2 := hid (R2.out.upd hu); replace H := hid (H.out.upd hu)
  clear hu R1
  go_wp2_with fail
  refine (H_least H.out _ K.out).mono ?_
  rintro e w4 ⟨gx, cx, rfl, X, hu⟩
  replace U := hid (U.out.trans hu (by simp)); replace R2 := hid (R2.out.upd hu); replace H := hid (H.out.upd hu); replace K := hid (K.out.upd hu)
  clear hu
  go_wp2_with fail
  refine (H_most H.out _ K.out).mono ?_
  rintro e w5 ⟨gy, cy, y, rfl, Y, HM, hu⟩
  replace U := hid (U.out.trans hu (by simp)); replace R2 := hid (R2.out.upd hu); replace H := hid (H.out.upd hu); replace K := hid (K.out.upd hu); replace X := hid (X.out.upd hu)
  clear hu
  have WX := hid (least_whole HV.out kC)
  go_wp2_with fail
  refine (H_whole_yes H.out _ X.out WX.out).mono ?_
  rintro e w6 ⟨rfl, hu⟩
  replace U := hid (U.out.trans hu (by simp)); replace R2 := hid (R2.out.upd hu); replace H := hid (H.out.upd hu); replace K := hid (K.out.upd hu); replace X := hid (X.out.upd hu); replace Y := hid (Y.out.upd hu)
  clear hu
  go_wp2_with fail
  refine (H_whole_yes H.out _ Y.out HM.out.whole).mono ?_
  rintro e w7 ⟨rfl, hu⟩
  replace U := hid (U.out.trans hu (by simp)); replace R2 := hid (R2.out.upd hu); replace H := hid (H.out.upd hu); replace K := hid (K.out.upd hu); replace X := hid (X.out.upd hu); replace Y := hid (Y.out.upd hu)
  clear hu
  go_wp2_with fail
  refine (H_least H.out _ X.out).mono ?_
  rintro e w8 ⟨ga, ca, rfl, A, hu⟩
  replace U := hid (U.out.trans hu (by simp)); replace R2 := hid (R2.out.upd hu); replace H := hid (H.out.upd hu); replace K := hid (K.out.upd hu); replace X := hid (X.out.upd hu); replace Y := hid (Y.out.upd hu)
  clear hu
  go_wp2_with fail
  refine (H_most H.out _ Y.out).mono ?_
  rintro e w9 ⟨gb, cb, bk, rfl, B, HB, hu⟩
  replace U := hid (U.out.trans hu (by simp)); replace R2 := hid (R2.out.upd hu); replace H := hid (H.out.upd hu); replace K := hid (K.out.upd hu); replace X := hid (X.out.upd hu); replace Y := hid (Y.out.upd hu); replace A := hid (A.out.upd hu)
  clear hu
  have EA := hid ((whole_iff_least HV.out X.out.cut).1 WX.out)
  have EB := hid ((whole_iff_most Y.out.cut HB.out).1 HM.out.whole)
  go_wp2_with fail
  refine (H_whole H.out _ K.out).mono ?_
  rintro e w10 ⟨t, rfl, HT, hu⟩
  replace U := hid (U.out.trans hu (by simp)); replace R2 := hid (R2.out.upd hu); replace H := hid (H.out.upd hu); replace K := hid (K.out.upd hu); replace X := hid (X.out.upd hu); replace Y := hid (Y.out.upd hu); replace A := hid (A.out.upd hu); replace B := hid (B.out.upd hu)
  clear hu
  have TX : Hid (t = true ↔ least l kC = kC) := HT.out.trans (whole_iff_least HV.out K.out.cut)
  have TY : Hid (t = true ↔ y = kC) := HT.out.trans (whole_iff_most K.out.cut HM.out)
  have z0 : Hid (Arr (w10.alloc (.cells #[.int .i64 0, .int .i64 0, .int .i64 0, .int .i64 0, .int .i64 0, .int .i64 0, .int .i64 0] 27)) w10.heap.size 27 7 (fun _ => .int .i64 0)) :=
    arr_new w10 [.int .i64 0, .int .i64 0, .int .i64 0, .int .i64 0, .int .i64 0, .int .i64 0, .int .i64 0] 27 7 _ rfl (fun z hz => by
      match z, hz with
      | 0, _ => rfl
      | 1, _ => rfl
      | 2, _ => rfl
      | 3, _ => rfl
      | 4, _ => rfl
      | 5, _ => rfl
      | 6, _ => rfl)
  have hu : Upd [] w10 (w10.alloc (.cells #[.int .i64 0, .int .i64 0, .int .i64 0, .int .i64 0, .int .i64 0, .int .i64 0, .int .i64 0] 27)) := (Upd.refl [] w10).alloc _
  replace U := hid (U.out.trans hu (by simp)); replace R2 := hid (R2.out.upd hu); replace H := hid (H.out.upd hu); replace K := hid (K.out.upd hu); replace X := hid (X.out.upd hu); replace Y := hid (Y.out.upd hu); replace A := hid (A.out.upd hu); replace B := hid (B.out.upd hu)
  clear hu
  obtain ⟨Z, hZ⟩ : ∃ Z, Z = w10.heap.size := ⟨_, rfl⟩
  obtain ⟨wz, hwz⟩ : ∃ wz, wz = w10.alloc (.cells #[.int .i64 0, .int .i64 0, .int .i64 0, .int .i64 0, .int .i64 0, .int .i64 0, .int .i64 0] 27) := ⟨_, rfl⟩
  rw [← hZ] at z0
  rw [← hwz] at z0 U R2 H K X Y A B
  go_wp2_with fail
  rw [← hZ, ← hwz]
  clear hZ hwz
  go_loopg [85] 7 (fun d v wr => ∃ (i : Nat), v = .int .i64 (i : Int) ∧ i ≤ 7 ∧ Hid (i + d = 7) ∧ Hid (Arr wr Z 27 7 (fun _ => .int .i64 0)) ∧ Hid (Upd [] wz wr))
  case atStart => exact ⟨0, rfl, by omega, by show _ = _; omega, z0.out, Upd.refl _ _⟩
  case round =>
    clear z0
    obtain ⟨i, rfl, hi6, Hi, Hz, Hu⟩ := hrel
    by_cases hi : i < 7
    · have hi' : (i : Int) < 7 := by omega
      have q := Hz.out.cell hi
      go_wp2_with fail
      go_roundg (7 - (i + 1))
      case measure => have := Hi.out; omega
      case rel => exact ⟨i + 1, by go_num, by omega, by show _ = _; omega, Hz.out, Hu.out⟩
    have hu := Hu.out
    replace U := hid (U.out.trans hu (by simp)); replace R2 := hid (R2.out.upd hu); replace H := hid (H.out.upd hu); replace K := hid (K.out.upd hu); replace X := hid (X.out.upd hu); replace Y := hid (Y.out.upd hu); replace A := hid (A.out.upd hu); replace B := hid (B.out.upd hu)
    clear hu Hz Hu Hi
    go_wp2_with fail
    refine (H_inside _ K.out _ X.out (B := true) (by simp; exact least_above HV.out K.out.cut)).mono ?_
    rintro e w11 ⟨rfl, hu⟩
    replace U := hid (U.out.trans hu (by simp)); replace R2 := hid (R2.out.upd hu); replace H := hid (H.out.upd hu); replace K := hid (K.out.upd hu); replace X := hid (X.out.upd hu); replace Y := hid (Y.out.upd hu); replace A := hid (A.out.upd hu); replace B := hid (B.out.upd hu)
    clear hu
    go_wp2_with fail
    refine (H_inside _ Y.out _ K.out (B := true) (by simp; exact HM.out.below)).mono ?_
    rintro e w12 ⟨rfl, hu⟩
    replace U := hid (U.out.trans hu (by simp)); replace R2 := hid (R2.out.upd hu); replace H := hid (H.out.upd hu); replace K := hid (K.out.upd hu); replace X := hid (X.out.upd hu); replace Y := hid (Y.out.upd hu); replace A := hid (A.out.upd hu); replace B := hid (B.out.upd hu)
    clear hu
    go_wp2_with fail
    refine (H_equal _ A.out _ X.out (B := true) (by simp; exact EA.out)).mono ?_
    rintro e w13 ⟨rfl, hu⟩
    replace U := hid (U.out.trans hu (by simp)); replace R2 := hid (R2.out.upd hu); replace H := hid (H.out.upd hu); replace K := hid (K.out.upd hu); replace X := hid (X.out.upd hu); replace Y := hid (Y.out.upd hu); replace A := hid (A.out.upd hu); replace B := hid (B.out.upd hu)
    clear hu
    go_wp2_with fail
    refine (H_equal _ B.out _ Y.out (B := true) (by simp; exact EB.out)).mono ?_
    rintro e w14 ⟨rfl, hu⟩
    replace U := hid (U.out.trans hu (by simp)); replace R2 := hid (R2.out.upd hu); replace H := hid (H.out.upd hu); replace K := hid (K.out.upd hu); replace X := hid (X.out.upd hu); replace Y := hid (Y.out.upd hu); replace A := hid (A.out.upd hu); replace B := hid (B.out.upd hu)
    clear hu
    go_wp2_with fail
    refine (H_equal _ X.out _ K.out (B := t) TX.out).mono ?_
    rintro e w15 ⟨rfl, hu⟩
    replace U := hid (U.out.trans hu (by simp)); replace R2 := hid (R2.out.upd hu); replace H := hid (H.out.upd hu); replace K := hid (K.out.upd hu); replace X := hid (X.out.upd hu); replace Y := hid (Y.out.upd hu); replace A := hid (A.out.upd hu); replace B := hid (B.out.upd hu)
    clear hu
    have hbb : (t != t) = false := by simp
    go_wp2_with fail
    refine (H_equal _ Y.out _ K.out (B := t) TY.out).mono ?_
    rintro e w16 ⟨rfl, hu⟩
    replace U := hid (U.out.trans hu (by simp)); replace R2 := hid (R2.out.upd hu); replace H := hid (H.out.upd hu); replace K := hid (K.out.upd hu); replace X := hid (X.out.upd hu); replace Y := hid (Y.out.upd hu); replace A := hid (A.out.upd hu); replace B := hid (B.out.upd hu)
    clear hu
    go_wp2_with fail
    refine (H_cut H.out cap2 R2.out E2.out).mono ?_
    rintro e w17 ⟨D0, kD, rfl, KD, hu⟩
    replace U := hid (U.out.trans hu (by simp)); replace H := hid (H.out.upd hu); replace K := hid (K.out.upd hu); replace X := hid (X.out.upd hu); replace Y := hid (Y.out.upd hu)
    clear hu R2 A B
    go_wp2_with fail
    refine (H_least H.out _ KD.out).mono ?_
    rintro e w18 ⟨gd, cd, rfl, D, hu⟩
    replace U := hid (U.out.trans hu (by simp)); replace H := hid (H.out.upd hu); replace K := hid (K.out.upd hu); replace X := hid (X.out.upd hu); replace Y := hid (Y.out.upd hu)
    clear hu KD
    have WD := hid (least_whole HV.out kD)
    obtain ⟨dd, hdd⟩ : ∃ dd, dd = least l kD := ⟨_, rfl⟩
    rw [← hdd] at D WD
    clear hdd
    have F1 : Hid (Le kC dd → Le (least l kC) dd) := least_min HV.out D.out.cut WD.out
    have F2 : Hid (Le dd kC → Le dd y) := HM.out.most dd D.out.cut WD.out
    by_cases h1 : Le kC dd
    · have G1 := hid h1
      clear h1
      go_wp2_with fail
      refine (H_inside _ K.out _ D.out (B := true) (by simp; exact G1.out)).mono ?_
      rintro e w19 ⟨rfl, hu⟩
      replace U := hid (U.out.trans hu (by simp)); replace H := hid (H.out.upd hu); replace K := hid (K.out.upd hu); replace X := hid (X.out.upd hu); replace Y := hid (Y.out.upd hu); replace D := hid (D.out.upd hu)
      clear hu
      go_wp2_with fail
      refine (H_inside _ X.out _ D.out (B := true) (by simp; exact F1.out G1.out)).mono ?_
      rintro e w20 ⟨rfl, hu⟩
      replace U := hid (U.out.trans hu (by simp)); replace H := hid (H.out.upd hu); replace K := hid (K.out.upd hu); replace X := hid (X.out.upd hu); replace Y := hid (Y.out.upd hu); replace D := hid (D.out.upd hu)
      clear hu
      by_cases h2 : Le dd kC
      · have G2 := hid h2
        clear h2
        go_wp2_with fail
        refine (H_inside _ D.out _ K.out (B := true) (by simp; exact G2.out)).mono ?_
        rintro e w21 ⟨rfl, hu⟩
        replace U := hid (U.out.trans hu (by simp)); replace H := hid (H.out.upd hu); replace K := hid (K.out.upd hu); replace X := hid (X.out.upd hu); replace Y := hid (Y.out.upd hu); replace D := hid (D.out.upd hu)
        clear hu
        go_wp2_with fail
        refine (H_inside _ D.out _ Y.out (B := true) (by simp; exact F2.out G2.out)).mono ?_
        rintro e w22 ⟨rfl, hu⟩
        replace U := hid (U.out.trans hu (by simp)); replace H := hid (H.out.upd hu); replace K := hid (K.out.upd hu); replace X := hid (X.out.upd hu); replace Y := hid (Y.out.upd hu); replace D := hid (D.out.upd hu)
        clear hu
        go_wp2_with fail
        go_ret
        exact ⟨rfl, U.out⟩

      · have G2 := hid h2
        clear h2
        go_wp2_with fail
        refine (H_inside _ D.out _ K.out (B := false) (by simp; exact G2.out)).mono ?_
        rintro e w21 ⟨rfl, hu⟩
        replace U := hid (U.out.trans hu (by simp)); replace H := hid (H.out.upd hu); replace K := hid (K.out.upd hu); replace X := hid (X.out.upd hu); replace Y := hid (Y.out.upd hu); replace D := hid (D.out.upd hu)
        clear hu
        go_wp2_with fail
        go_ret
        exact ⟨rfl, U.out⟩

    · have G1 := hid h1
      clear h1
      go_wp2_with fail
      refine (H_inside _ K.out _ D.out (B := false) (by simp; exact G1.out)).mono ?_
      rintro e w19 ⟨rfl, hu⟩
      replace U := hid (U.out.trans hu (by simp)); replace H := hid (H.out.upd hu); replace K := hid (K.out.upd hu); replace X := hid (X.out.upd hu); replace Y := hid (Y.out.upd hu); replace D := hid (D.out.upd hu)
      clear hu
      by_cases h2 : Le dd kC
      · have G2 := hid h2
        clear h2
        go_wp2_with fail
        refine (H_inside _ D.out _ K.out (B := true) (by simp; exact G2.out)).mono ?_
        rintro e w20 ⟨rfl, hu⟩
        replace U := hid (U.out.trans hu (by simp)); replace H := hid (H.out.upd hu); replace K := hid (K.out.upd hu); replace X := hid (X.out.upd hu); replace Y := hid (Y.out.upd hu); replace D := hid (D.out.upd hu)
        clear hu
        go_wp2_with fail
        refine (H_inside _ D.out _ Y.out (B := true) (by simp; exact F2.out G2.out)).mono ?_
        rintro e w21 ⟨rfl, hu⟩
        replace U := hid (U.out.trans hu (by simp)); replace H := hid (H.out.upd hu); replace K := hid (K.out.upd hu); replace X := hid (X.out.upd hu); replace Y := hid (Y.out.upd hu); replace D := hid (D.out.upd hu)
        clear hu
        go_wp2_with fail
        go_ret
        exact ⟨rfl, U.out⟩

      · have G2 := hid h2
        clear h2
        go_wp2_with fail
        refine (H_inside _ D.out _ K.out (B := false) (by simp; exact G2.out)).mono ?_
        rintro e w20 ⟨rfl, hu⟩
        replace U := hid (U.out.trans hu (by simp)); replace H := hid (H.out.upd hu); replace K := hid (K.out.upd hu); replace X := hid (X.out.upd hu); replace Y := hid (Y.out.upd hu); replace D := hid (D.out.upd hu)
        clear hu
        go_wp2_with fail
        go_ret
        exact ⟨rfl, U.out⟩
end Go.Proofs.Ytcdladnbcamgjaa.CCl
