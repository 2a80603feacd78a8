/- The walk of the statement CutLattice. -/
import Derived.Test.YtcdladnbcamgjaaHa
namespace Go.Proofs.Ytcdladnbcamgjaa.CLa
open Go Go.RowKit Go.Proofs.Ytcdladnbcamgjaa.K Go.Proofs.Ytcdladnbcamgjaa.Ev Go.Proofs.Ytcdladnbcamgjaa.CL Go.Proofs.Ytcdladnbcamgjaa.CW Go.Proofs.Ytcdladnbcamgjaa.Th Go.Proofs.Ytcdladnbcamgjaa.Cu Go.Proofs.Ytcdladnbcamgjaa.CuT Go.Proofs.Ytcdladnbcamgjaa.Cv Go.Proofs.Ytcdladnbcamgjaa.Cw Go.Proofs.Ytcdladnbcamgjaa.Ha

set_option maxHeartbeats 8000000 in
set_option maxRecDepth 100000 in
theorem lattice_walk (a : Option Addr) (len cap : Nat) (xs : List Int) (a2 : Option Addr) (len2 cap2 : Nat) (ys : List Int) (a3 : Option Addr) (len3 cap3 : Nat) (zs : List Int) (w : World) (hx : IntRow w a xs) (hl : xs.length = len) (hlc : len ≤ cap) (hc : cap ≤ 9223372036854775807)
    (hy : IntRow w a2 ys) (hyl : ys.length = len2) (hz : IntRow w a3 zs) (hzl : zs.length = len3) :
    Calls Try.prog 12 #[.slice a len cap, .slice a2 len2 cap2, .slice a3 len3 cap3] w fun e w' => e = .returned (.bool true) ∧ Upd [] w w' := by
  have HX := hid hx
  have HL := hid hl
  have HY := hid hy
  have HYL := hid hyl
  have HZ := hid hz
  have HZL := hid hzl
  clear hx hl hy hyl hz hzl
  go_enter Try.func12, Try.ntmps12
  go_wp2_with fail
  refine (cutBegun_any _).mono ?_
  rintro e w1 ⟨rfl, hu⟩
  have U1 := hid hu
  clear hu
  go_wp2_with fail
  refine (hist_at a len cap xs _ (HX.out.upd U1.out) HL.out hlc hc).mono ?_
  rintro e w2 ⟨l, n, b, c, rfl, H, hn, hlc2, hc2, hu⟩
  have U2 := hid (U1.out.trans hu (by simp))
  clear hu HX HL hlc hc U1
  have HV := hid H.out.valid
  go_wp2_with fail
  refine (H_cut H.out cap2 (HY.out.upd U2.out) HYL.out).mono ?_
  rintro e w3 ⟨C3, k3, rfl, K3, hu⟩
  have V := hid hu
  clear hu
  go_wp2_with fail
  refine (H_least (H.out.upd V.out) _ K3.out).mono ?_
  rintro e w4 ⟨gx, cx, rfl, X4, hu⟩
  have V4 := hid (V.out.trans hu (by simp))
  clear hu V K3
  go_wp2_with fail
  refine (H_cut (H.out.upd V4.out) cap3 (HZ.out.upd (U2.out.trans V4.out (by simp))) HZL.out).mono ?_
  rintro e w5 ⟨C5, k5, rfl, K5, hu⟩
  have V5 := hid (V4.out.trans hu (by simp))
  have X5 := hid (X4.out.upd hu)
  clear hu V4 X4
  go_wp2_with fail
  refine (H_most (H.out.upd V5.out) _ K5.out).mono ?_
  rintro e w6 ⟨gy, cy, y, rfl, Y6, HM, hu⟩
  have V6 := hid (V5.out.trans hu (by simp))
  have X6 := hid (X5.out.upd hu)
  clear hu V5 X5 K5
  go_wp2_with fail
  refine (H_join (H.out.upd V6.out) _ X6.out _ Y6.out).mono ?_
  rintro e w7 ⟨gj, cj, rfl, J7, hu⟩
  have V7 := hid (V6.out.trans hu (by simp))
  have X7 := hid (X6.out.upd hu)
  have Y7 := hid (Y6.out.upd hu)
  clear hu V6 X6 Y6
  go_wp2_with fail
  refine (H_meet (H.out.upd V7.out) _ X7.out _ Y7.out).mono ?_
  rintro e w8 ⟨gm, cm, rfl, M8, hu⟩
  have V8 := hid (V7.out.trans hu (by simp))
  have X8 := hid (X7.out.upd hu)
  have Y8 := hid (Y7.out.upd hu)
  have J8 := hid (J7.out.upd hu)
  clear hu V7 X7 Y7 J7
  have WX := hid (least_whole HV.out k3)
  have WJ := hid (whole_join HV.out X8.out.cut Y8.out.cut WX.out HM.out.whole)
  have WM := hid (whole_meet HV.out WX.out HM.out.whole)
  go_wp2_with fail
  refine (H_whole_yes (H.out.upd V8.out) _ J8.out WJ.out).mono ?_
  rintro e w9 ⟨rfl, hu⟩
  have V9 := hid (V8.out.trans hu (by simp))
  have X9 := hid (X8.out.upd hu)
  have Y9 := hid (Y8.out.upd hu)
  have J9 := hid (J8.out.upd hu)
  have M9 := hid (M8.out.upd hu)
  clear hu V8 X8 Y8 J8 M8
  go_wp2_with fail
  refine (H_whole_yes (H.out.upd V9.out) _ M9.out WM.out).mono ?_
  rintro e w10 ⟨rfl, hu⟩
  have V10 := hid (U2.out.trans (V9.out.trans hu (by simp)) (by simp))
  have X10 := hid (X9.out.upd hu)
  have Y10 := hid (Y9.out.upd hu)
  have J10 := hid (J9.out.upd hu)
  have M10 := hid (M9.out.upd hu)
  clear hu V9 X9 Y9 J9 M9
  have z0 : Hid (Arr (w10.alloc (.cells #[.int .i64 0, .int .i64 0, .int .i64 0, .int .i64 0, .int .i64 0, .int .i64 0] 27)) w10.heap.size 27 6 (fun _ => .int .i64 0)) :=
    arr_new w10 [.int .i64 0, .int .i64 0, .int .i64 0, .int .i64 0, .int .i64 0, .int .i64 0] 27 6 _ rfl (fun z hz => by
      match z, hz with
      | 0, _ => rfl
      | 1, _ => rfl
      | 2, _ => rfl
      | 3, _ => rfl
      | 4, _ => rfl
      | 5, _ => rfl)
  have V11 : Hid (Upd [] w10 (w10.alloc (.cells #[.int .i64 0, .int .i64 0, .int .i64 0, .int .i64 0, .int .i64 0, .int .i64 0] 27))) := (Upd.refl [] w10).alloc _
  obtain ⟨Z, hZ⟩ : ∃ Z, Z = w10.heap.size := ⟨_, rfl⟩
  rw [← hZ] at z0
  go_wp2_with fail
  rw [← hZ]
  clear hZ
  go_loopg [76] 6 (fun d v76 wr => ∃ (i : Nat), v76 = .int .i64 (i : Int) ∧ i ≤ 6 ∧ Hid (i + d = 6) ∧ Hid (Arr wr Z 27 6 (fun _ => .int .i64 0)) ∧ Hid (Upd [] w10 wr))
  case atStart => exact ⟨0, rfl, by omega, by show _ = _; omega, z0.out, V11.out⟩
  case round =>
    clear z0 V11
    obtain ⟨i, rfl, hi6, Hi, Hz, Hu⟩ := hrel
    by_cases hi : i < 6
    · have hi' : (i : Int) < 6 := by omega
      have q := Hz.out.cell hi
      go_wp2_with fail
      go_roundg (6 - (i + 1))
      case measure => have := Hi.out; omega
      case rel => exact ⟨i + 1, by go_num, by omega, by show _ = _; omega, Hz.out, Hu.out⟩
    · have X := hid (X10.out.upd Hu.out)
      have Y := hid (Y10.out.upd Hu.out)
      have J := hid (J10.out.upd Hu.out)
      have M := hid (M10.out.upd Hu.out)
      clear X10 Y10 J10 M10
      go_wp2_with fail
      refine (H_inside _ M.out _ X.out (B := true) (by simp; exact (meet_le _ _).1)).mono ?_
      rintro e p1 ⟨rfl, hu⟩
      have P1 := hid hu
      clear hu
      go_wp2_with fail
      refine (H_inside _ (X.out.upd P1.out) _ (J.out.upd P1.out) (B := true) (by simp; exact (le_join X.out.cut.len Y.out.cut.len).1)).mono ?_
      rintro e p2 ⟨rfl, hu⟩
      have P2 := hid (P1.out.trans hu (by simp))
      clear hu P1
      go_wp2_with fail
      refine (H_inside _ (M.out.upd P2.out) _ (Y.out.upd P2.out) (B := true) (by simp; exact (meet_le _ _).2)).mono ?_
      rintro e p3 ⟨rfl, hu⟩
      have P3 := hid (P2.out.trans hu (by simp))
      clear hu P2
      go_wp2_with fail
      refine (H_inside _ (Y.out.upd P3.out) _ (J.out.upd P3.out) (B := true) (by simp; exact (le_join X.out.cut.len Y.out.cut.len).2)).mono ?_
      rintro e p4 ⟨rfl, hu⟩
      have P4 := hid (P3.out.trans hu (by simp))
      clear hu P3
      go_wp2_with fail
      go_ret
      exact ⟨rfl, (V10.out.trans Hu.out (by simp)).trans P4.out (by simp)⟩
end Go.Proofs.Ytcdladnbcamgjaa.CLa
