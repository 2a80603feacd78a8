/- The walk of the statement CutSteps. -/
import Derived.Test.YtcdladnbcamgjaaHa
namespace Go.Proofs.Ytcdladnbcamgjaa.CSt
open Go Go.RowKit Go.Proofs.Ytcdladnbcamgjaa.K Go.Proofs.Ytcdladnbcamgjaa.Ev Go.Proofs.Ytcdladnbcamgjaa.R Go.Proofs.Ytcdladnbcamgjaa.CL Go.Proofs.Ytcdladnbcamgjaa.CW Go.Proofs.Ytcdladnbcamgjaa.Th Go.Proofs.Ytcdladnbcamgjaa.Cu Go.Proofs.Ytcdladnbcamgjaa.CuT Go.Proofs.Ytcdladnbcamgjaa.Cv Go.Proofs.Ytcdladnbcamgjaa.Cw Go.Proofs.Ytcdladnbcamgjaa.Ha

theorem sum_cnt {l : List Ev} (hv : Valid l) : ∀ j, j ≤ l.length → cnt l 0 j + cnt l 1 j + cnt l 2 j + cnt l 3 j + cnt l 4 j + cnt l 5 j + cnt l 6 j + cnt l 7 j = j
  | 0, _ => rfl
  | j + 1, h => by
    have ih := sum_cnt hv j (by omega)
    have h8 : (ev l j).place < 8 := (hv j (by omega)).p8
    simp only [cnt]
    generalize (ev l j).place = q at h8 ⊢
    rcases (show q = 0 ∨ q = 1 ∨ q = 2 ∨ q = 3 ∨ q = 4 ∨ q = 5 ∨ q = 6 ∨ q = 7 by omega) with h | h | h | h | h | h | h | h <;>
      simp [h] <;> omega
theorem sum_high {l : List Ev} (hv : Valid l) {c : List Int} (hc : VCut l c) : c.sum ≤ (l.length : Int) := by
  have hs := sum_cnt hv l.length (Nat.le_refl _)
  have h0 := hc.high 0 (by omega); have h1 := hc.high 1 (by omega); have h2 := hc.high 2 (by omega); have h3 := hc.high 3 (by omega)
  have h4 := hc.high 4 (by omega); have h5 := hc.high 5 (by omega); have h6 := hc.high 6 (by omega); have h7 := hc.high 7 (by omega)
  have e : c.sum = c.getD 0 0 + c.getD 1 0 + c.getD 2 0 + c.getD 3 0 + c.getD 4 0 + c.getD 5 0 + c.getD 6 0 + c.getD 7 0 := by
    have hl := hc.len
    match c, hl with
    | [a, b, c, d, e, f, g, k], _ => simp; omega
  rw [e]; omega
theorem eq_of_sum {c d : List Int} (hc : c.length = 8) (hd : d.length = 8) (h : Le c d) (hs : d.sum ≤ c.sum) : c = d := by
  refine Classical.byContradiction (fun hne => hne (Le.anti hc hd h (fun p hp => ?_)))
  refine Int.not_lt.1 (fun hlt => ?_)
  have := sum_lt8 hc hd h hp hlt
  omega

set_option maxHeartbeats 8000000 in
set_option maxRecDepth 100000 in
theorem the_walk (a0 : Option Addr) (len0 cap0 : Nat) (z0 : List Int) (a1 : Option Addr) (len1 cap1 : Nat) (z1 : List Int) (a2 : Option Addr) (len2 cap2 : Nat) (z2 : List Int) (w : World) (hc0 : len0 ≤ cap0) (hm0 : cap0 ≤ 9223372036854775807) (r0 : IntRow w a0 z0) (e0 : z0.length = len0) (r1 : IntRow w a1 z1) (e1 : z1.length = len1) (r2 : IntRow w a2 z2) (e2 : z2.length = len2) :
    Calls Try.prog 11 #[.slice a0 len0 cap0, .slice a1 len1 cap1, .slice a2 len2 cap2] w fun e w' => e = .returned (.bool true) ∧ Upd [] w w' := by
  have R0 := hid r0; have E0 := hid e0
  have R1 := hid r1; have E1 := hid e1
  have R2 := hid r2; have E2 := hid e2
  clear r0 e0 r1 e1 r2 e2
  have U := hid (Upd.refl [] w)
  go_enter Try.func11, Try.ntmps11
  go_wp2_with fail
  refine (cutBegun_any _).mono ?_
  rintro e w1 ⟨rfl, hu⟩
  replace U := hid (U.out.trans hu (by simp)); replace R0 := hid (R0.out.upd hu); replace R1 := hid (R1.out.upd hu); replace R2 := hid (R2.out.upd hu)
  clear hu
  go_wp2_with fail
  refine (hist_at a0 len0 cap0 z0 _ R0.out E0.out hc0 hm0).mono ?_
  rintro e w2 ⟨l, n, b, c, rfl, H, hn, hlc2, hc2, hu⟩
  replace U := hid (U.out.trans hu (by simp)); replace R1 := hid (R1.out.upd hu); replace R2 := hid (R2.out.upd hu)
  clear hu R0
  clear E0 hc0 hm0
  have HV := hid H.out.valid
  go_wp2_with fail
  refine (H_cut H.out cap1 R1.out E1.out).mono ?_
  rintro e w3 ⟨C, kC, rfl, K, hu⟩
  replace U := hid (U.out.trans hu (by simp)); replace R2 := hid (R2.out.upd hu); replace H := hid (H.out.upd hu)
  clear hu R1
  go_wp2_with fail
  refine (H_most H.out _ K.out).mono ?_
  rintro e w4 ⟨gx, cx, x0, rfl, X, HM, hu⟩
  replace U := hid (U.out.trans hu (by simp)); replace R2 := hid (R2.out.upd hu); replace H := hid (H.out.upd hu)
  clear hu K
  go_wp2_with fail
  refine (H_cut H.out cap2 R2.out E2.out).mono ?_
  rintro e w5 ⟨D, kD, rfl, KD, hu⟩
  replace U := hid (U.out.trans hu (by simp)); replace H := hid (H.out.upd hu); replace X := hid (X.out.upd hu)
  clear hu R2
  go_wp2_with fail
  refine (H_least H.out _ KD.out).mono ?_
  rintro e w6 ⟨gz, cz, rfl, Z, hu⟩
  replace U := hid (U.out.trans hu (by simp)); replace H := hid (H.out.upd hu); replace X := hid (X.out.upd hu)
  clear hu KD
  go_wp2_with fail
  refine (H_join H.out _ X.out _ Z.out).mono ?_
  rintro e w7 ⟨gy, cy, rfl, Y, hu⟩
  replace U := hid (U.out.trans hu (by simp)); replace H := hid (H.out.upd hu); replace X := hid (X.out.upd hu); replace Z := hid (Z.out.upd hu)
  clear hu
  have WY := hid (whole_join HV.out X.out.cut Z.out.cut HM.out.whole (least_whole HV.out kD))
  have LE := hid (le_join X.out.cut.len Z.out.cut.len).1
  obtain ⟨y, hy⟩ : ∃ y, y = joinL x0 (least l kD) := ⟨_, rfl⟩
  rw [← hy] at Y WY LE
  clear hy
  go_wp2_with fail
  refine (H_inside _ X.out _ Y.out (B := true) (by simp; exact LE.out)).mono ?_
  rintro e w8 ⟨rfl, hu⟩
  replace U := hid (U.out.trans hu (by simp)); replace H := hid (H.out.upd hu); replace X := hid (X.out.upd hu); replace Y := hid (Y.out.upd hu)
  clear hu Z
  have WX := hid HM.out.whole
  have X00 := hid (sum_low8 X.out.cut)
  go_wp2_with fail
  go_loopg [8, 64] n (fun d v8 v64 wr => ∃ (i gx cx : Nat) (xc : List Int), v8 = .slice (some ⟨gx, 0, none⟩) 8 cx ∧ v64 = .int .i64 (i : Int) ∧ i ≤ n ∧ Hid (i + d = n) ∧ Hid (CutAt wr gx l xc) ∧ Hid (Whole l xc) ∧ Hid (Le xc y) ∧ Hid ((i : Int) ≤ xc.sum) ∧ Hid (Upd [] w8 wr))
  case atStart => exact ⟨0, gx, cx, x0, rfl, rfl, by omega, by show _ = _; omega, X.out, WX.out, LE.out, X00.out, Upd.refl _ _⟩
  case round =>
    clear X WX LE X00 HM
    obtain ⟨i, gx, cx, xc, rfl, rfl, hin, Hi, X, WX, LE, Hs, V⟩ := hrel
    by_cases hi : i < n
    · go_wp2_with fail
      go_loopg [8, 14, 68] 8 (fun d v8 v14 v68 wq => ∃ (p : Nat), v8 = .slice (some ⟨gx, 0, none⟩) 8 cx ∧ v14 = .bool false ∧ v68 = .int .i64 (p : Int) ∧ p ≤ 8 ∧ Hid (p + d = 8) ∧ Hid (∀ q, q < p → xc.getD q 0 = y.getD q 0 ∨ ¬ Whole l (upC xc q)) ∧ Hid (Upd [] wr wq))
      case atStart => exact ⟨0, rfl, rfl, rfl, by omega, by show _ = _; omega, hid (fun q hq => absurd hq (Nat.not_lt_zero q)), Upd.refl _ _⟩
      case round =>
        obtain ⟨p, rfl, rfl, rfl, hp8, Hp, HQ, V2⟩ := hrel
        by_cases hp : p < 8
        · have hp' : (p : Int) < 8 := by omega
          have XX := hid (X.out.upd V2.out)
          have YY := hid (Y.out.upd (V.out.trans V2.out (by simp)))
          obtain ⟨x, hx⟩ : ∃ x, x = xc.getD p 0 := ⟨_, rfl⟩
          obtain ⟨z, hz⟩ : ∃ z, z = y.getD p 0 := ⟨_, rfl⟩
          have q1 := IntRow.arr XX.out.row (i := p) (by rw [XX.out.cut.len]; exact hp)
          have q2 := IntRow.arr YY.out.row (i := p) (by rw [YY.out.cut.len]; exact hp)
          rw [← hx] at q1
          rw [← hz] at q2
          have hxz : x ≤ z := by rw [hx, hz]; exact LE.out p hp
          have hx0 : 0 ≤ x := by rw [hx]; exact XX.out.cut.low p hp
          have hx1 : x ≤ 60 := by have a1 := XX.out.cut.high p hp; have a2 := cnt_le l p l.length; have a3 := H.out.len; have a4 := H.out.small; rw [hx]; omega
          have HXX := hid hx
          have HZZ := hid hz
          have HXZ := hid hxz
          clear hx hz hxz
          by_cases hxy : x = z
          · subst hxy
            go_wp2_with fail
            go_quiet (fail)
            go_wp2_with fail
            go_roundg (8 - (p + 1))
            case measure => have := Hp.out; omega
            case rel =>
              refine ⟨p + 1, rfl, rfl, by go_num, by omega, by show _ = _; omega, hid (fun q hq => ?_), V2.out.drewN _⟩
              by_cases e : q = p
              · subst e; left; rw [← HXX.out, ← HZZ.out]
              · exact HQ.out q (by omega)
          · have b : (x == z) = false := by rw [beq_eq_false_iff_ne]; exact hxy
            have HLT : Hid (xc.getD p 0 < y.getD p 0) := by show _ < _; rw [← HXX.out, ← HZZ.out]; have := HXZ.out; omega
            clear hxy
            go_wp2_with fail
            go_quiet (fail)
            go_wp2_with fail
            refine (cloneC gx cx xc _ (XX.out.row.upd ((Upd.refl [] _).drewN _)) XX.out.cut.len).mono ?_
            rintro e w5 ⟨g5, c5, rfl, hge, ha, hu⟩
            have U5 := hid ((((V.out.trans V2.out (by simp)).drewN _)).trans hu (by simp))
            have VR := V2
            have U5r := hid (((Upd.refl [] _).drewN _).trans hu (by simp))
            have GER := hid hge
            have GE := hid (show w8.heap.size ≤ g5 from Nat.le_trans (((V.out.trans V2.out (by simp)).drewN _).size) hge)
            have q5 := ha.val hp (v := .int .i64 x) (by rw [HXX.out])
            have q5f := ha.fro p
            have A5 := hid ha
            clear hu hge ha q1 q2
            go_wp2_with fail
            have U6 := hid (U5.out.setCell (p := ⟨g5, p, none⟩) (.inr GE.out) (.int .i64 (x + 1)))
            have U6r := hid (U5r.out.setCell (p := ⟨g5, p, none⟩) (.inr GER.out) (.int .i64 (x + 1)))
            have C6 : Hid (CutAt (w5.setCell ⟨g5, p, none⟩ (.int .i64 (x + 1))) g5 l (upC xc p)) := ⟨Arr.row (n := 8) (t := 3) ((A5.out.set p _).congr (fun z hz => by
                rw [up_get _ _ _ (by rw [XX.out.cut.len]; exact hp)]
                by_cases e : z = p
                · subst e; rw [if_pos rfl, if_pos rfl, HXX.out]
                · rw [if_neg e, if_neg (fun q => e q.symm)])) (by rw [up_len]; exact XX.out.cut.len), vcut_up XX.out.cut YY.out.cut hp HLT.out⟩
            refine (H_whole (H.out.upd U6.out) _ C6.out).mono ?_
            rintro e w7 ⟨B, rfl, HB, hu⟩
            have U7 := hid (U6.out.trans hu (by simp))
            have U7r := hid (U6r.out.trans hu (by simp))
            have C7 := hid (C6.out.upd hu)
            clear hu U5 A5 q5 q5f C6
            cases B with
            | true =>
              have WU : Hid (Whole l (upC xc p)) := HB.out.1 (by simp)
              go_wp2_with fail
              go_roundg (n - (i + 1))
              case measure => have := Hi.out; omega
              case rel =>
                refine ⟨i + 1, g5, c5, upC xc p, rfl, by go_num, by omega, by show _ = _; omega, C7.out, WU.out, le_up XX.out.cut.len hp LE.out HLT.out, ?_, U7.out⟩
                have := Hs.out
                show _ ≤ _
                rw [sum_up XX.out.cut.len hp]; omega
            | false =>
              have WU : Hid (¬ Whole l (upC xc p)) := fun h => by have := HB.out.2 h; simp at this
              clear HB
              go_wp2_with fail
              go_roundg (8 - (p + 1))
              case measure => have := Hp.out; omega
              case rel =>
                refine ⟨p + 1, rfl, rfl, by go_num, by omega, by show _ = _; omega, hid (fun q hq => ?_), ?_⟩
                · by_cases e : q = p
                  · subst e; exact .inr WU.out
                  · exact HQ.out q (by omega)
                · exact VR.out.trans U7r.out (by simp)
        · obtain rfl : p = 8 := by omega
          have XY : Hid (xc = y) := by
            refine Classical.byContradiction (fun hne => ?_)
            obtain ⟨q, q1, q2, q3⟩ := next_event HV.out X.out.cut Y.out.cut WX.out WY.out LE.out hne
            rcases HQ.out q q1 with h | h
            · omega
            · exact h q3
          have VV := hid (V.out.trans V2.out (by simp))
          go_wp2_with fail
          refine (H_equal _ (X.out.upd V2.out) _ (Y.out.upd VV.out) (B := true) (by simp; exact XY.out)).mono ?_
          rintro e p3 ⟨rfl, hu⟩
          have VW := hid (U.out.trans (VV.out.trans hu (by simp)) (by simp))
          clear hu
          go_wp2_with fail
          go_ret
          exact ⟨rfl, VW.out⟩
    · obtain rfl : i = n := by omega
      have XY : Hid (xc = y) := by
        refine eq_of_sum X.out.cut.len Y.out.cut.len LE.out ?_
        have a1 := sum_high HV.out Y.out.cut
        have a2 := Hs.out
        have a3 := H.out.len
        omega
      go_wp2_with fail
      refine (H_equal _ X.out _ (Y.out.upd V.out) (B := true) (by simp; exact XY.out)).mono ?_
      rintro e p3 ⟨rfl, hu⟩
      have VW := hid (U.out.trans (V.out.trans hu (by simp)) (by simp))
      clear hu
      go_wp2_with fail
      go_ret
      exact ⟨rfl, VW.out⟩
end Go.Proofs.Ytcdladnbcamgjaa.CSt
