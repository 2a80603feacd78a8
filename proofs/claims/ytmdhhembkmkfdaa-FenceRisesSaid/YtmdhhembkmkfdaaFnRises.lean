/- The walk of the statement FenceRises: the store contains the last write with the greatest epoch. -/
import Derived.Test.YtmdhhembkmkfdaaFn
import Derived.Test.YtmdhhembkmkfdaaRR
namespace Go.Proofs.Ytmdhhembkmkfdaa.Fn
open Go Go.RowKit Go.Proofs.Ytmdhhembkmkfdaa.K Go.Proofs.Ytmdhhembkmkfdaa.R

set_option maxHeartbeats 4000000 in
set_option maxRecDepth 100000 in
theorem rises_walk (a : Option Addr) (len cap : Nat) (xss : List (List Int)) (w : World) (hx : RowRow w a xss) (hl : xss.length = len) (hlc : len ≤ cap) (hc : cap ≤ 9223372036854775807) :
    Calls Try.prog 4 #[.slice a len cap] w fun e w' => e = .returned (.bool true) ∧ Upd [] w w' := by
  have HX := hid hx
  have HL := hid hl
  clear hx hl
  obtain ⟨n, hn⟩ : ∃ n : Nat, min (len : Int) 100 = (n : Int) := ⟨min len 100, by omega⟩
  have hmin := fun ats ty => min_nat ats ty .i64 .i64 (len : Int) 100 n hn
  have hn1 : n ≤ len := by omega
  have hn2 : n ≤ 100 := by omega
  clear hn
  go_enter Try.func4, Try.ntmps4
  go_wp2_with fail
  refine (begun_any _).mono ?_
  rintro e w1 ⟨rfl, hu⟩
  have HU1 := hid hu
  clear hu
  go_wp2_with fail
  refine (newS_any _).mono ?_
  rintro e w3 ⟨s, rfl, hq, hu, hs⟩
  have HS3 := hid hq
  have HU3 := hid (HU1.out.trans hu (fun t ht => by cases ht))
  have hgs0 : w.heap.size ≤ s := by have := HU1.out.size; omega
  clear hq hu
  go_wp2_with fail
  go_loopg [4, 5, 23] n (fun d v4 v5 v23 wr => ∃ (j : Nat) (m v : Int) (rf : Int), v4 = .int .i64 m ∧ v5 = .int .i64 v ∧ v23 = .int .i64 (j : Int) ∧ 0 ≤ m ∧ m ≤ 10 ∧ 0 ≤ rf ∧ rf ≤ (j : Int) ∧ Hid (j + d = n) ∧ Hid (IsS wr s m v rf) ∧ Hid (Upd [] w wr))
  case atStart => exact ⟨0, 0, 0, 0, rfl, rfl, rfl, by omega, by omega, by omega, by omega, by show _ = _; omega, HS3.out, HU3.out⟩
  case round =>
    obtain ⟨j, m, v, rf, rfl, rfl, rfl, hm0, hm1, hrf0, hrf1, Hj, Hs, Hu⟩ := hrel
    by_cases hj : j < n
    · obtain ⟨x, a', c', rfl, hcw, hr, hrl, hrc⟩ := HX.out j (by rw [HL.out]; omega)
      obtain ⟨row, hrow⟩ : ∃ row, row = xss.getD j [] := ⟨_, rfl⟩
      rw [← hrow] at hcw hr hrl
      clear hrow
      obtain ⟨k, hk⟩ : ∃ k, k = row.length := ⟨_, rfl⟩
      rw [← hk] at hcw hrl
      have hc1 := Hu.out.cell hcw (by simp)
      have HR := hid hr
      have HK := hid hk
      clear hr hk hcw
      by_cases hk2 : k < 2
      · go_wp2_with fail
        go_roundg (n - (j + 1))
        case measure => have := Hj.out; omega
        case rel => exact ⟨j + 1, m, v, rf, rfl, rfl, by go_num, hm0, hm1, hrf0, by omega, by show _ = _; omega, Hs.out, Hu.out⟩
      · obtain ⟨y, rfl, hy0w⟩ := HR.out 0 (by rw [← HK.out]; omega)
        obtain ⟨y', hy', hy1w⟩ := HR.out 1 (by rw [← HK.out]; omega)
        cases hy'
        obtain ⟨b0, hb0⟩ : ∃ b, b = row.getD 0 0 := ⟨_, rfl⟩
        obtain ⟨b1, hb1⟩ : ∃ b, b = row.getD 1 0 := ⟨_, rfl⟩
        rw [← hb0] at hy0w
        rw [← hb1] at hy1w
        have hy0 : wr.cell? y = some (.int .i64 b0) := by simpa [Addr.add] using Hu.out.cell hy0w (by simp)
        have hy1 : wr.cell? ⟨y.block, y.off + 1, none⟩ = some (.int .i64 b1) := by simpa [Addr.add] using Hu.out.cell hy1w (by simp)
        have HY1 := hid hy1w
        clear hb0 hb1 hy0w hy1w
        go_wp2_with fail
        refine (rest_some _ _ _ (by omega) (by omega)).mono ?_
        rintro e w' ⟨r, hr, -, rfl, rfl⟩
        by_cases hge : m ≤ 1 + (r : Int)
        · go_wp2_with fail
          refine (put_yes s _ _ _ _ _ _ Hs.out (by omega) (by omega)).mono ?_
          rintro e w4 ⟨rfl, hq, hu⟩
          have HS4 := hid hq
          have HU4 := hid (Hu.out.trans hu (fun t ht => .inr (by simp at ht; omega)))
          have hy1 : w4.cell? ⟨y.block, y.off + 1, none⟩ = some (.int .i64 b1) := by simpa [Addr.add] using HU4.out.cell HY1.out (by simp)
          clear hq hu
          go_wp2_with fail
          go_quiet (fail)
          go_wp2_with fail
          refine (get_any s _ _ _ _ (HS4.out.d _)).mono ?_
          rintro e w9 ⟨rfl, hq, hu⟩
          have HS9 := hid hq
          have HU9 := hid (((HU4.out.drewN _).trans hu (fun t ht => .inr (by simp at ht; omega))))
          clear hq hu
          go_wp2_with fail
          go_roundg (n - (j + 1))
          case measure => have := Hj.out; omega
          case rel => exact ⟨j + 1, 1 + (r : Int), b1, rf, rfl, rfl, by go_num, by omega, by omega, hrf0, by omega, by show _ = _; omega, HS9.out, HU9.out⟩
        · go_wp2_with fail
          refine (put_no s _ _ _ _ _ _ Hs.out (by omega) (by omega) (by omega) (by omega)).mono ?_
          rintro e w4 ⟨rfl, hq, hu⟩
          have HS4 := hid hq
          have HU4 := hid (Hu.out.trans hu (fun t ht => .inr (by simp at ht; omega)))
          clear hq hu
          go_wp2_with fail
          refine (get_any s _ _ _ _ HS4.out).mono ?_
          rintro e w9 ⟨rfl, hq, hu⟩
          have HS9 := hid hq
          have HU9 := hid (((HU4.out).trans hu (fun t ht => .inr (by simp at ht; omega))))
          clear hq hu
          go_wp2_with fail
          go_roundg (n - (j + 1))
          case measure => have := Hj.out; omega
          case rel => exact ⟨j + 1, m, v, rf + 1, rfl, rfl, by go_num, hm0, hm1, by omega, by omega, by show _ = _; omega, HS9.out, HU9.out⟩
    · go_wp2_with fail
      go_ret
      exact ⟨rfl, Hu.out⟩
end Go.Proofs.Ytmdhhembkmkfdaa.Fn
