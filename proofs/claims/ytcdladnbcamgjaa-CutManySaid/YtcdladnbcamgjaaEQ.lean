/- The walk of slices.Equal at []int. -/
import Derived.Test.YtcdladnbcamgjaaCL
namespace Go.Proofs.Ytcdladnbcamgjaa.EQ
open Go Go.RowKit Go.Proofs.Ytcdladnbcamgjaa.K Go.Proofs.Ytcdladnbcamgjaa.O Go.Proofs.Ytcdladnbcamgjaa.CL

set_option maxHeartbeats 4000000 in
set_option maxRecDepth 100000 in
theorem equal_any (a : Option Addr) (n c : Nat) (xs : List Int) (b : Option Addr) (m d : Nat) (ys : List Int) (w : World) (hx : IntRow w a xs) (hxl : xs.length = n) (hy : IntRow w b ys) (hyl : ys.length = m) (hn : n ≤ 9223372036854775806) (hm : m ≤ 9223372036854775806) :
    Calls Try.prog 30 #[.slice a n c, .slice b m d] w fun e w' => e = .returned (.bool (decide (xs = ys))) ∧ ∃ q, w' = w.drewN q := by
  have HX := hid hx
  have HXL := hid hxl
  have HY := hid hy
  have HYL := hid hyl
  clear hx hxl hy hyl
  by_cases hnm : n = m
  · subst hnm
    go_enter Try.func30, Try.ntmps30
    go_wp2_with fail
    go_loopg [13] n (fun dd v13 wr => ∃ (j : Nat), v13 = .int .i64 (j : Int) ∧ Hid (j + dd = n) ∧ Hid (xs.take j = ys.take j) ∧ Hid (∃ q, wr = w.drewN q))
    case atStart => exact ⟨0, rfl, by show _ = _; omega, by show _ = _; simp, ⟨0, rfl⟩⟩
    case round =>
      obtain ⟨j, rfl, Hj, He, Hw⟩ := hrel
      obtain ⟨q, rfl⟩ := Hw.out
      by_cases hj : j < n
      · obtain ⟨x, rfl, cx⟩ := HX.out j (by rw [HXL.out]; exact hj)
        obtain ⟨y, rfl, cy⟩ := HY.out j (by rw [HYL.out]; exact hj)
        obtain ⟨p, hp⟩ : ∃ p, p = xs.getD j 0 := ⟨_, rfl⟩
        obtain ⟨r, hr⟩ : ∃ r, r = ys.getD j 0 := ⟨_, rfl⟩
        rw [← hp] at cx
        rw [← hr] at cy
        have HP := hid hp
        have HR := hid hr
        clear hp hr
        have hj1 : (j : Int) < (n : Int) := by omega
        have hj0 : 0 ≤ (j : Int) := by omega
        by_cases hpr : p = r
        · subst hpr
          go_wp2_with fail
          go_quiet (fail)
          go_wp2_with fail
          go_roundg (n - (j + 1))
          case measure => have := Hj.out; omega
          case rel =>
            refine ⟨j + 1, by go_num, by show _ = _; omega, ?_, ⟨_, rfl⟩⟩
            have hx' : j < xs.length := by rw [HXL.out]; exact hj
            have hy' : j < ys.length := by rw [HYL.out]; exact hj
            show _ = _
            rw [List.take_succ_eq_append_getElem hx', List.take_succ_eq_append_getElem hy', He.out]
            congr 2
            have e1 : xs.getD j 0 = xs[j] := by simp [List.getD_eq_getElem?_getD, hx']
            have e2 : ys.getD j 0 = ys[j] := by simp [List.getD_eq_getElem?_getD, hy']
            rw [← e1, ← e2, ← HP.out, ← HR.out]
        · have hne : (p != r) = true := by rw [bne_iff_ne]; exact hpr
          have hfin : decide (xs = ys) = false := by
            rw [decide_eq_false_iff_not]; intro e; apply hpr; rw [HP.out, HR.out, e]
          clear hpr
          go_wp2_with fail
          go_quiet (fail)
          go_wp2_with fail
          go_ret
          exact ⟨ret_bool (by rw [hfin]), ⟨q + nq, by simp⟩⟩
      · have hfin : decide (xs = ys) = true := by
          have hjn : j = n := by have := Hj.out; omega
          have := He.out
          rw [List.take_of_length_le (by rw [HXL.out]; omega), List.take_of_length_le (by rw [HYL.out]; omega)] at this
          rw [decide_eq_true_iff]; exact this
        have HF := hid hfin
        clear hfin
        go_wp2_with fail
        go_ret
        exact ⟨ret_bool (by rw [HF.out]), ⟨_, rfl⟩⟩
  · have hfin : decide (xs = ys) = false := by
      rw [decide_eq_false_iff_not]; intro e; apply hnm; rw [← HXL.out, ← HYL.out, e]
    have hne : ((n : Int) != (m : Int)) = true := by rw [bne_iff_ne]; omega
    have HF := hid hfin
    clear hfin hnm
    go_enter Try.func30, Try.ntmps30
    go_wp2_with fail
    go_ret
    exact ⟨ret_bool (by rw [HF.out]), ⟨0, rfl⟩⟩
end Go.Proofs.Ytcdladnbcamgjaa.EQ
