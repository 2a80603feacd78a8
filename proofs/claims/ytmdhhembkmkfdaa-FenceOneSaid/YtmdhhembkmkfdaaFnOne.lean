/- The walk of the statement FenceOne: at most one node holds the lease at any time, and epochs increase. -/
import Derived.Test.YtmdhhembkmkfdaaFn
import Derived.Test.YtmdhhembkmkfdaaRR
import Derived.Deep.RegionWith
namespace Go.Proofs.Ytmdhhembkmkfdaa.Fn
open Go Go.RowKit Go.Proofs.Ytmdhhembkmkfdaa.K Go.Proofs.Ytmdhhembkmkfdaa.R

theorem rest_q (a n : Int) (w : World) (h1 : 1 ≤ n) (h2 : n ≤ 1000000) : Calls Try.prog 23 #[.int .i64 a, .int .i64 n] w fun e w' => e = .returned (.int .i64 (restN a n : Int)) ∧ w' = w :=
  (rest_any a n w h1 h2).mono fun _ _ ⟨he, hw⟩ => ⟨he, hw.symm⟩

set_option maxHeartbeats 16000000 in
set_option maxRecDepth 100000 in
theorem one_walk (a : Option Addr) (len cap : Nat) (xss : List (List Int)) (w : World) (hx : RowRow w a xss) (hl : xss.length = len) (hlc : len ≤ cap) (hc : cap ≤ 9223372036854775807) :
    Calls Try.prog 5 #[.slice a len cap] w fun e w' => e = .returned (.bool true) ∧ Upd [] w w' := by
  have HX := hid hx
  have HL := hid hl
  clear hx hl
  obtain ⟨n, hn⟩ : ∃ n : Nat, min (len : Int) 150 = (n : Int) := ⟨min len 150, by omega⟩
  have hmin := fun ats ty => min_nat ats ty .i64 .i64 (len : Int) 150 n hn
  have hn1 : n ≤ len := by omega
  have hn2 : n ≤ 150 := by omega
  clear hn
  go_enter Try.func5, Try.ntmps5
  go_wp2_with fail
  refine (begun_any _).mono ?_
  rintro e w1 ⟨rfl, hu⟩
  have HU1 := hid hu
  clear hu
  go_wp2_with fail
  refine (new_any _).mono ?_
  rintro e w3 ⟨g, rfl, hq, hu, hg⟩
  have HS3 := hid hq
  have HU3 := hid (HU1.out.trans hu (fun t ht => by cases ht))
  have hgs0 : w.heap.size ≤ g := by have := HU1.out.size; omega
  clear hq hu
  go_wp2_with fail
  go_loopg [4, 5, 6, 7, 29] n (fun d v4 v5 v6 v7 v29 wr => ∃ (j : Nat) (nd ep tl now : Int), v4 = .int .i64 nd ∧ v5 = .int .i64 ep ∧ v6 = .int .i64 tl ∧ v7 = .int .i64 now ∧ v29 = .int .i64 (j : Int) ∧ 0 ≤ nd ∧ nd ≤ 4 ∧ 0 ≤ ep ∧ ep ≤ (j : Int) ∧ 0 ≤ now ∧ now ≤ 20 * (j : Int) ∧ 0 ≤ tl ∧ tl ≤ 20 * (j : Int) + 20 ∧ Hid (j + d = n) ∧ Hid (IsL wr g now ep nd tl) ∧ Hid (Upd [] w wr))
  case atStart => exact ⟨0, 0, 0, 0, 0, rfl, rfl, rfl, rfl, rfl, by omega, by omega, by omega, by omega, by omega, by omega, by omega, by omega, by show _ = _; omega, HS3.out, HU3.out⟩
  case round =>
    obtain ⟨j, nd, ep, tl, now, rfl, rfl, rfl, rfl, rfl, hnd0, hnd1, hep0, hep1, hnow0, hnow1, htl0, htl1, Hj, Hs, Hu⟩ := hrel
    by_cases hj : j < n
    · obtain ⟨x, a', c', rfl, hcw, hr, hrl, hrc⟩ := HX.out j (by rw [HL.out]; omega)
      obtain ⟨row, hrow⟩ : ∃ row, row = xss.getD j [] := ⟨_, rfl⟩
      rw [← hrow] at hcw hr hrl
      clear hrow
      obtain ⟨k, hk⟩ : ∃ k, k = row.length := ⟨_, rfl⟩
      rw [← hk] at hcw hrl
      have hc1 := Hu.out.cell hcw (by simp)
      have HR := hid hr
      have HK := hid hk
      clear hr hk hcw
      by_cases hk2 : k < 3
      · go_wp2_with fail
        go_roundg (n - (j + 1))
        case measure => have := Hj.out; omega
        case rel => exact ⟨j + 1, nd, ep, tl, now, rfl, rfl, rfl, rfl, by go_num, hnd0, hnd1, hep0, by omega, hnow0, by omega, htl0, by omega, by show _ = _; omega, Hs.out, Hu.out⟩
      · obtain ⟨y, rfl, hy0w⟩ := HR.out 0 (by rw [← HK.out]; omega)
        obtain ⟨y', hy', hy1w⟩ := HR.out 1 (by rw [← HK.out]; omega)
        cases hy'
        obtain ⟨y', hy', hy2w⟩ := HR.out 2 (by rw [← HK.out]; omega)
        cases hy'
        obtain ⟨b0, hb0⟩ : ∃ b, b = row.getD 0 0 := ⟨_, rfl⟩
        obtain ⟨b1, hb1⟩ : ∃ b, b = row.getD 1 0 := ⟨_, rfl⟩
        obtain ⟨b2, hb2⟩ : ∃ b, b = row.getD 2 0 := ⟨_, rfl⟩
        rw [← hb0] at hy0w
        rw [← hb1] at hy1w
        rw [← hb2] at hy2w
        have hy0 : wr.cell? y = some (.int .i64 b0) := by simpa [Addr.add] using Hu.out.cell hy0w (by simp)
        have hy1 : wr.cell? ⟨y.block, y.off + 1, none⟩ = some (.int .i64 b1) := by simpa [Addr.add] using Hu.out.cell hy1w (by simp)
        have hy2 : wr.cell? ⟨y.block, y.off + 2, none⟩ = some (.int .i64 b2) := by simpa [Addr.add] using Hu.out.cell hy2w (by simp)
        clear hb0 hb1 hy0w hy1w hb2 hy2w
        have hk1 : (1 : Int) < (k : Int) := by omega
        have hk0 : (2 : Int) < (k : Int) := by omega
        obtain ⟨p, hp⟩ : ∃ p : Nat, p = restN b1 4 := ⟨_, rfl⟩
        have hp4 : (p : Int) < 4 := by rw [hp]; exact restN_lt b1 4 (by omega)
        obtain ⟨q, hq⟩ : ∃ q : Nat, q = restN b2 20 := ⟨_, rfl⟩
        have hq20 : (q : Int) < 20 := by rw [hq]; exact restN_lt b2 20 (by omega)
        have HP := hid hp
        have HQ := hid hq
        clear hp hq
        by_cases hA : 0 < nd
        · by_cases hB : now < tl
          · skip
            go_wp2_with fail
            go_quiet (first
              | (go_at_call_of 23 (Value.int .i64 b1); exact Calls.quiet_of_same ((rest_q b1 4 _ (by omega) (by omega)).mono fun _ _ ⟨he, hw⟩ => ⟨by rw [he, ← HP.out], hw⟩))
              | (go_at_call_of 23 (Value.int .i64 b2); exact Calls.quiet_of_same ((rest_q b2 20 _ (by omega) (by omega)).mono fun _ _ ⟨he, hw⟩ => ⟨by rw [he, ← HQ.out], hw⟩)))
            go_wp2_with fail
            refine (rest_some _ _ _ (by omega) (by omega)).mono ?_
            rintro e w' ⟨r, hr, -, rfl, rfl⟩
            have hr5 : r = 0 ∨ r = 1 ∨ r = 2 ∨ r = 3 ∨ r = 4 := by omega
            rcases hr5 with rfl | rfl | rfl | rfl | rfl
            · as_aux_lemma =>
              go_wp2_with fail
              refine (take_no g _ _ _ _ _ _ _ (Hs.out.d nq) (by omega) (by omega) (by omega) (by omega) (by omega) (by omega)).mono ?_
              rintro e w4 ⟨rfl, hq, hu⟩
              have HS4 := hid hq
              have HU4 := hid ((Hu.out.drewN nq).trans hu (fun t ht => .inr (by simp at ht; omega)))
              clear hq hu
              go_wp2_with fail
              refine (who_yes g _ _ _ _ _ HS4.out (by omega) (by omega) (by omega) (by omega)).mono ?_
              rintro e w9 ⟨rfl, hq, hu⟩
              have HS9 := hid hq
              have HU9 := hid (HU4.out.trans hu (fun t ht => .inr (by simp at ht; omega)))
              clear hq hu
              go_wp2_with fail
              go_roundg (n - (j + 1))
              case measure => have := Hj.out; omega
              case rel => exact ⟨j + 1, nd, ep, tl, now, (by go_num), (by go_num), (by go_num), (by go_num), by go_num, by omega, by omega, by omega, by omega, by omega, by omega, by omega, by omega, by show _ = _; omega, HS9.out, HU9.out⟩
            · as_aux_lemma =>
              by_cases hw : nd = (1 + (p : Int))
              · subst hw
                have hmax := fun ats ty => max_int ats ty .i64 .i64 tl (now + (1 + (q : Int)))
                go_wp2_with fail
                refine (keep_yes g _ _ _ _ _ _ (Hs.out.d nq) (by omega) (by omega) (by omega) (by omega) (by omega) (by omega)).mono ?_
                rintro e w4 ⟨rfl, hq, hu⟩
                have HS4 := hid hq
                have HU4 := hid ((Hu.out.drewN nq).trans hu (fun t ht => .inr (by simp at ht; omega)))
                clear hq hu
                go_wp2_with fail
                refine (who_yes g _ _ _ _ _ HS4.out (by omega) (by omega) (by omega) (by omega)).mono ?_
                rintro e w9 ⟨rfl, hq, hu⟩
                have HS9 := hid hq
                have HU9 := hid (HU4.out.trans hu (fun t ht => .inr (by simp at ht; omega)))
                clear hq hu
                go_wp2_with fail
                go_roundg (n - (j + 1))
                case measure => have := Hj.out; omega
                case rel => exact ⟨j + 1, (1 + (p : Int)), ep, max tl (now + (1 + (q : Int))), now, (by go_num), (by go_num), (by go_num), (by go_num), by go_num, by omega, by omega, by omega, by omega, by omega, by omega, by omega, by omega, by show _ = _; omega, HS9.out, HU9.out⟩
              · have hw' : ((1 + (p : Int)) == nd) = false := by rw [beq_eq_false_iff_ne]; omega
                go_wp2_with fail
                refine (keep_none g _ _ _ _ _ _ _ _ (Hs.out.d nq) (by omega) (by omega) (by omega)).mono ?_
                rintro e w4 ⟨rfl, rfl⟩
                have HS4 := hid (Hs.out.d nq)
                have HU4 := hid (Hu.out.drewN nq)
                go_wp2_with fail
                refine (who_yes g _ _ _ _ _ HS4.out (by omega) (by omega) (by omega) (by omega)).mono ?_
                rintro e w9 ⟨rfl, hq, hu⟩
                have HS9 := hid hq
                have HU9 := hid (HU4.out.trans hu (fun t ht => .inr (by simp at ht; omega)))
                clear hq hu
                go_wp2_with fail
                go_roundg (n - (j + 1))
                case measure => have := Hj.out; omega
                case rel => exact ⟨j + 1, nd, ep, tl, now, (by go_num), (by go_num), (by go_num), (by go_num), by go_num, by omega, by omega, by omega, by omega, by omega, by omega, by omega, by omega, by show _ = _; omega, HS9.out, HU9.out⟩
            · as_aux_lemma =>
              by_cases hw : nd = (1 + (p : Int))
              · subst hw
                go_wp2_with fail
                refine (leave_yes g _ _ _ _ _ (Hs.out.d nq) (by omega)).mono ?_
                rintro e w4 ⟨rfl, hq, hu⟩
                have HS4 := hid hq
                have HU4 := hid ((Hu.out.drewN nq).trans hu (fun t ht => .inr (by simp at ht; omega)))
                clear hq hu
                go_wp2_with fail
                refine (who_no g _ _ _ _ _ HS4.out (by omega)).mono ?_
                rintro e w9 ⟨rfl, hq, hu⟩
                have HS9 := hid hq
                have HU9 := hid (HU4.out.trans hu (fun t ht => .inr (by simp at ht; omega)))
                clear hq hu
                go_wp2_with fail
                go_roundg (n - (j + 1))
                case measure => have := Hj.out; omega
                case rel => exact ⟨j + 1, 0, ep, tl, now, (by go_num), (by go_num), (by go_num), (by go_num), by go_num, by omega, by omega, by omega, by omega, by omega, by omega, by omega, by omega, by show _ = _; omega, HS9.out, HU9.out⟩
              · skip
                go_wp2_with fail
                refine (leave_no g _ _ _ _ _ _ _ (Hs.out.d nq) (by omega)).mono ?_
                rintro e w4 ⟨rfl, rfl⟩
                have HS4 := hid (Hs.out.d nq)
                have HU4 := hid (Hu.out.drewN nq)
                go_wp2_with fail
                refine (who_yes g _ _ _ _ _ HS4.out (by omega) (by omega) (by omega) (by omega)).mono ?_
                rintro e w9 ⟨rfl, hq, hu⟩
                have HS9 := hid hq
                have HU9 := hid (HU4.out.trans hu (fun t ht => .inr (by simp at ht; omega)))
                clear hq hu
                go_wp2_with fail
                go_roundg (n - (j + 1))
                case measure => have := Hj.out; omega
                case rel => exact ⟨j + 1, nd, ep, tl, now, (by go_num), (by go_num), (by go_num), (by go_num), by go_num, by omega, by omega, by omega, by omega, by omega, by omega, by omega, by omega, by show _ = _; omega, HS9.out, HU9.out⟩
            · as_aux_lemma =>
              go_wp2_with fail
              refine (tick_any g _ _ _ _ _ _ (Hs.out.d nq) (by omega) (by omega) (by omega) (by omega)).mono ?_
              rintro e w4 ⟨rfl, hq, hu⟩
              have HS4 := hid hq
              have HU4 := hid ((Hu.out.drewN nq).trans hu (fun t ht => .inr (by simp at ht; omega)))
              clear hq hu
              by_cases hB' : now + (1 + (q : Int)) < tl
              · skip
                go_wp2_with fail
                refine (who_yes g _ _ _ _ _ HS4.out (by omega) (by omega) (by omega) (by omega)).mono ?_
                rintro e w9 ⟨rfl, hq, hu⟩
                have HS9 := hid hq
                have HU9 := hid (HU4.out.trans hu (fun t ht => .inr (by simp at ht; omega)))
                clear hq hu
                go_wp2_with fail
                go_roundg (n - (j + 1))
                case measure => have := Hj.out; omega
                case rel => exact ⟨j + 1, nd, ep, tl, now + (1 + (q : Int)), (by go_num), (by go_num), (by go_num), (by go_num), by go_num, by omega, by omega, by omega, by omega, by omega, by omega, by omega, by omega, by show _ = _; omega, HS9.out, HU9.out⟩
              · skip
                go_wp2_with fail
                refine (who_no g _ _ _ _ _ HS4.out (by omega)).mono ?_
                rintro e w9 ⟨rfl, hq, hu⟩
                have HS9 := hid hq
                have HU9 := hid (HU4.out.trans hu (fun t ht => .inr (by simp at ht; omega)))
                clear hq hu
                go_wp2_with fail
                go_roundg (n - (j + 1))
                case measure => have := Hj.out; omega
                case rel => exact ⟨j + 1, nd, ep, tl, now + (1 + (q : Int)), (by go_num), (by go_num), (by go_num), (by go_num), by go_num, by omega, by omega, by omega, by omega, by omega, by omega, by omega, by omega, by show _ = _; omega, HS9.out, HU9.out⟩
            · as_aux_lemma =>
              go_wp2_with fail
              refine (tick_any g _ _ _ _ _ _ (Hs.out.d nq) (by omega) (by omega) (by omega) (by omega)).mono ?_
              rintro e w4 ⟨rfl, hq, hu⟩
              have HS4 := hid hq
              have HU4 := hid ((Hu.out.drewN nq).trans hu (fun t ht => .inr (by simp at ht; omega)))
              clear hq hu
              by_cases hB' : now + (1 + (q : Int)) < tl
              · skip
                go_wp2_with fail
                refine (who_yes g _ _ _ _ _ HS4.out (by omega) (by omega) (by omega) (by omega)).mono ?_
                rintro e w9 ⟨rfl, hq, hu⟩
                have HS9 := hid hq
                have HU9 := hid (HU4.out.trans hu (fun t ht => .inr (by simp at ht; omega)))
                clear hq hu
                go_wp2_with fail
                go_roundg (n - (j + 1))
                case measure => have := Hj.out; omega
                case rel => exact ⟨j + 1, nd, ep, tl, now + (1 + (q : Int)), (by go_num), (by go_num), (by go_num), (by go_num), by go_num, by omega, by omega, by omega, by omega, by omega, by omega, by omega, by omega, by show _ = _; omega, HS9.out, HU9.out⟩
              · skip
                go_wp2_with fail
                refine (who_no g _ _ _ _ _ HS4.out (by omega)).mono ?_
                rintro e w9 ⟨rfl, hq, hu⟩
                have HS9 := hid hq
                have HU9 := hid (HU4.out.trans hu (fun t ht => .inr (by simp at ht; omega)))
                clear hq hu
                go_wp2_with fail
                go_roundg (n - (j + 1))
                case measure => have := Hj.out; omega
                case rel => exact ⟨j + 1, nd, ep, tl, now + (1 + (q : Int)), (by go_num), (by go_num), (by go_num), (by go_num), by go_num, by omega, by omega, by omega, by omega, by omega, by omega, by omega, by omega, by show _ = _; omega, HS9.out, HU9.out⟩
          · skip
            go_wp2_with fail
            go_quiet (first
              | (go_at_call_of 23 (Value.int .i64 b1); exact Calls.quiet_of_same ((rest_q b1 4 _ (by omega) (by omega)).mono fun _ _ ⟨he, hw⟩ => ⟨by rw [he, ← HP.out], hw⟩))
              | (go_at_call_of 23 (Value.int .i64 b2); exact Calls.quiet_of_same ((rest_q b2 20 _ (by omega) (by omega)).mono fun _ _ ⟨he, hw⟩ => ⟨by rw [he, ← HQ.out], hw⟩)))
            go_wp2_with fail
            refine (rest_some _ _ _ (by omega) (by omega)).mono ?_
            rintro e w' ⟨r, hr, -, rfl, rfl⟩
            have hr5 : r = 0 ∨ r = 1 ∨ r = 2 ∨ r = 3 ∨ r = 4 := by omega
            rcases hr5 with rfl | rfl | rfl | rfl | rfl
            · as_aux_lemma =>
              go_wp2_with fail
              refine (take_yes g _ _ _ _ _ _ _ (Hs.out.d nq) (by omega) (by omega) (by omega) (by omega) (by omega) (by omega) (by omega) (by omega) (by omega)).mono ?_
              rintro e w4 ⟨rfl, hq, hu⟩
              have HS4 := hid hq
              have HU4 := hid ((Hu.out.drewN nq).trans hu (fun t ht => .inr (by simp at ht; omega)))
              clear hq hu
              go_wp2_with fail
              refine (who_yes g _ _ _ _ _ HS4.out (by omega) (by omega) (by omega) (by omega)).mono ?_
              rintro e w9 ⟨rfl, hq, hu⟩
              have HS9 := hid hq
              have HU9 := hid (HU4.out.trans hu (fun t ht => .inr (by simp at ht; omega)))
              clear hq hu
              go_wp2_with fail
              go_roundg (n - (j + 1))
              case measure => have := Hj.out; omega
              case rel => exact ⟨j + 1, (1 + (p : Int)), ep + 1, now + (1 + (q : Int)), now, (by go_num), (by go_num), (by go_num), (by go_num), by go_num, by omega, by omega, by omega, by omega, by omega, by omega, by omega, by omega, by show _ = _; omega, HS9.out, HU9.out⟩
            · as_aux_lemma =>
              by_cases hw : nd = (1 + (p : Int))
              · subst hw
                go_wp2_with fail
                refine (keep_gone g _ _ _ _ _ _ (Hs.out.d nq) (by omega) (by omega) (by omega) (by omega)).mono ?_
                rintro e w4 ⟨rfl, hq, hu⟩
                have HS4 := hid hq
                have HU4 := hid ((Hu.out.drewN nq).trans hu (fun t ht => .inr (by simp at ht; omega)))
                clear hq hu
                go_wp2_with fail
                refine (who_no g _ _ _ _ _ HS4.out (by omega)).mono ?_
                rintro e w9 ⟨rfl, hq, hu⟩
                have HS9 := hid hq
                have HU9 := hid (HU4.out.trans hu (fun t ht => .inr (by simp at ht; omega)))
                clear hq hu
                go_wp2_with fail
                go_roundg (n - (j + 1))
                case measure => have := Hj.out; omega
                case rel => exact ⟨j + 1, (1 + (p : Int)), ep, tl, now, (by go_num), (by go_num), (by go_num), (by go_num), by go_num, by omega, by omega, by omega, by omega, by omega, by omega, by omega, by omega, by show _ = _; omega, HS9.out, HU9.out⟩
              · have hw' : ((1 + (p : Int)) == nd) = false := by rw [beq_eq_false_iff_ne]; omega
                go_wp2_with fail
                refine (keep_none g _ _ _ _ _ _ _ _ (Hs.out.d nq) (by omega) (by omega) (by omega)).mono ?_
                rintro e w4 ⟨rfl, rfl⟩
                have HS4 := hid (Hs.out.d nq)
                have HU4 := hid (Hu.out.drewN nq)
                go_wp2_with fail
                refine (who_no g _ _ _ _ _ HS4.out (by omega)).mono ?_
                rintro e w9 ⟨rfl, hq, hu⟩
                have HS9 := hid hq
                have HU9 := hid (HU4.out.trans hu (fun t ht => .inr (by simp at ht; omega)))
                clear hq hu
                go_wp2_with fail
                go_roundg (n - (j + 1))
                case measure => have := Hj.out; omega
                case rel => exact ⟨j + 1, nd, ep, tl, now, (by go_num), (by go_num), (by go_num), (by go_num), by go_num, by omega, by omega, by omega, by omega, by omega, by omega, by omega, by omega, by show _ = _; omega, HS9.out, HU9.out⟩
            · as_aux_lemma =>
              by_cases hw : nd = (1 + (p : Int))
              · subst hw
                go_wp2_with fail
                refine (leave_yes g _ _ _ _ _ (Hs.out.d nq) (by omega)).mono ?_
                rintro e w4 ⟨rfl, hq, hu⟩
                have HS4 := hid hq
                have HU4 := hid ((Hu.out.drewN nq).trans hu (fun t ht => .inr (by simp at ht; omega)))
                clear hq hu
                go_wp2_with fail
                refine (who_no g _ _ _ _ _ HS4.out (by omega)).mono ?_
                rintro e w9 ⟨rfl, hq, hu⟩
                have HS9 := hid hq
                have HU9 := hid (HU4.out.trans hu (fun t ht => .inr (by simp at ht; omega)))
                clear hq hu
                go_wp2_with fail
                go_roundg (n - (j + 1))
                case measure => have := Hj.out; omega
                case rel => exact ⟨j + 1, 0, ep, tl, now, (by go_num), (by go_num), (by go_num), (by go_num), by go_num, by omega, by omega, by omega, by omega, by omega, by omega, by omega, by omega, by show _ = _; omega, HS9.out, HU9.out⟩
              · skip
                go_wp2_with fail
                refine (leave_no g _ _ _ _ _ _ _ (Hs.out.d nq) (by omega)).mono ?_
                rintro e w4 ⟨rfl, rfl⟩
                have HS4 := hid (Hs.out.d nq)
                have HU4 := hid (Hu.out.drewN nq)
                go_wp2_with fail
                refine (who_no g _ _ _ _ _ HS4.out (by omega)).mono ?_
                rintro e w9 ⟨rfl, hq, hu⟩
                have HS9 := hid hq
                have HU9 := hid (HU4.out.trans hu (fun t ht => .inr (by simp at ht; omega)))
                clear hq hu
                go_wp2_with fail
                go_roundg (n - (j + 1))
                case measure => have := Hj.out; omega
                case rel => exact ⟨j + 1, nd, ep, tl, now, (by go_num), (by go_num), (by go_num), (by go_num), by go_num, by omega, by omega, by omega, by omega, by omega, by omega, by omega, by omega, by show _ = _; omega, HS9.out, HU9.out⟩
            · as_aux_lemma =>
              go_wp2_with fail
              refine (tick_any g _ _ _ _ _ _ (Hs.out.d nq) (by omega) (by omega) (by omega) (by omega)).mono ?_
              rintro e w4 ⟨rfl, hq, hu⟩
              have HS4 := hid hq
              have HU4 := hid ((Hu.out.drewN nq).trans hu (fun t ht => .inr (by simp at ht; omega)))
              clear hq hu
              go_wp2_with fail
              refine (who_no g _ _ _ _ _ HS4.out (by omega)).mono ?_
              rintro e w9 ⟨rfl, hq, hu⟩
              have HS9 := hid hq
              have HU9 := hid (HU4.out.trans hu (fun t ht => .inr (by simp at ht; omega)))
              clear hq hu
              go_wp2_with fail
              go_roundg (n - (j + 1))
              case measure => have := Hj.out; omega
              case rel => exact ⟨j + 1, nd, ep, tl, now + (1 + (q : Int)), (by go_num), (by go_num), (by go_num), (by go_num), by go_num, by omega, by omega, by omega, by omega, by omega, by omega, by omega, by omega, by show _ = _; omega, HS9.out, HU9.out⟩
            · as_aux_lemma =>
              go_wp2_with fail
              refine (tick_any g _ _ _ _ _ _ (Hs.out.d nq) (by omega) (by omega) (by omega) (by omega)).mono ?_
              rintro e w4 ⟨rfl, hq, hu⟩
              have HS4 := hid hq
              have HU4 := hid ((Hu.out.drewN nq).trans hu (fun t ht => .inr (by simp at ht; omega)))
              clear hq hu
              go_wp2_with fail
              refine (who_no g _ _ _ _ _ HS4.out (by omega)).mono ?_
              rintro e w9 ⟨rfl, hq, hu⟩
              have HS9 := hid hq
              have HU9 := hid (HU4.out.trans hu (fun t ht => .inr (by simp at ht; omega)))
              clear hq hu
              go_wp2_with fail
              go_roundg (n - (j + 1))
              case measure => have := Hj.out; omega
              case rel => exact ⟨j + 1, nd, ep, tl, now + (1 + (q : Int)), (by go_num), (by go_num), (by go_num), (by go_num), by go_num, by omega, by omega, by omega, by omega, by omega, by omega, by omega, by omega, by show _ = _; omega, HS9.out, HU9.out⟩
        · by_cases hB : now < tl
          · skip
            go_wp2_with fail
            go_quiet (first
              | (go_at_call_of 23 (Value.int .i64 b1); exact Calls.quiet_of_same ((rest_q b1 4 _ (by omega) (by omega)).mono fun _ _ ⟨he, hw⟩ => ⟨by rw [he, ← HP.out], hw⟩))
              | (go_at_call_of 23 (Value.int .i64 b2); exact Calls.quiet_of_same ((rest_q b2 20 _ (by omega) (by omega)).mono fun _ _ ⟨he, hw⟩ => ⟨by rw [he, ← HQ.out], hw⟩)))
            go_wp2_with fail
            refine (rest_some _ _ _ (by omega) (by omega)).mono ?_
            rintro e w' ⟨r, hr, -, rfl, rfl⟩
            have hr5 : r = 0 ∨ r = 1 ∨ r = 2 ∨ r = 3 ∨ r = 4 := by omega
            rcases hr5 with rfl | rfl | rfl | rfl | rfl
            · as_aux_lemma =>
              go_wp2_with fail
              refine (take_yes g _ _ _ _ _ _ _ (Hs.out.d nq) (by omega) (by omega) (by omega) (by omega) (by omega) (by omega) (by omega) (by omega) (by omega)).mono ?_
              rintro e w4 ⟨rfl, hq, hu⟩
              have HS4 := hid hq
              have HU4 := hid ((Hu.out.drewN nq).trans hu (fun t ht => .inr (by simp at ht; omega)))
              clear hq hu
              go_wp2_with fail
              refine (who_yes g _ _ _ _ _ HS4.out (by omega) (by omega) (by omega) (by omega)).mono ?_
              rintro e w9 ⟨rfl, hq, hu⟩
              have HS9 := hid hq
              have HU9 := hid (HU4.out.trans hu (fun t ht => .inr (by simp at ht; omega)))
              clear hq hu
              go_wp2_with fail
              go_roundg (n - (j + 1))
              case measure => have := Hj.out; omega
              case rel => exact ⟨j + 1, (1 + (p : Int)), ep + 1, now + (1 + (q : Int)), now, (by go_num), (by go_num), (by go_num), (by go_num), by go_num, by omega, by omega, by omega, by omega, by omega, by omega, by omega, by omega, by show _ = _; omega, HS9.out, HU9.out⟩
            · as_aux_lemma =>
              have hw' : ((1 + (p : Int)) == nd) = false := by rw [beq_eq_false_iff_ne]; omega
              go_wp2_with fail
              refine (keep_none g _ _ _ _ _ _ _ _ (Hs.out.d nq) (by omega) (by omega) (by omega)).mono ?_
              rintro e w4 ⟨rfl, rfl⟩
              have HS4 := hid (Hs.out.d nq)
              have HU4 := hid (Hu.out.drewN nq)
              go_wp2_with fail
              refine (who_no g _ _ _ _ _ HS4.out (by omega)).mono ?_
              rintro e w9 ⟨rfl, hq, hu⟩
              have HS9 := hid hq
              have HU9 := hid (HU4.out.trans hu (fun t ht => .inr (by simp at ht; omega)))
              clear hq hu
              go_wp2_with fail
              go_roundg (n - (j + 1))
              case measure => have := Hj.out; omega
              case rel => exact ⟨j + 1, nd, ep, tl, now, (by go_num), (by go_num), (by go_num), (by go_num), by go_num, by omega, by omega, by omega, by omega, by omega, by omega, by omega, by omega, by show _ = _; omega, HS9.out, HU9.out⟩
            · as_aux_lemma =>
              go_wp2_with fail
              refine (leave_no g _ _ _ _ _ _ _ (Hs.out.d nq) (by omega)).mono ?_
              rintro e w4 ⟨rfl, rfl⟩
              have HS4 := hid (Hs.out.d nq)
              have HU4 := hid (Hu.out.drewN nq)
              go_wp2_with fail
              refine (who_no g _ _ _ _ _ HS4.out (by omega)).mono ?_
              rintro e w9 ⟨rfl, hq, hu⟩
              have HS9 := hid hq
              have HU9 := hid (HU4.out.trans hu (fun t ht => .inr (by simp at ht; omega)))
              clear hq hu
              go_wp2_with fail
              go_roundg (n - (j + 1))
              case measure => have := Hj.out; omega
              case rel => exact ⟨j + 1, nd, ep, tl, now, (by go_num), (by go_num), (by go_num), (by go_num), by go_num, by omega, by omega, by omega, by omega, by omega, by omega, by omega, by omega, by show _ = _; omega, HS9.out, HU9.out⟩
            · as_aux_lemma =>
              go_wp2_with fail
              refine (tick_any g _ _ _ _ _ _ (Hs.out.d nq) (by omega) (by omega) (by omega) (by omega)).mono ?_
              rintro e w4 ⟨rfl, hq, hu⟩
              have HS4 := hid hq
              have HU4 := hid ((Hu.out.drewN nq).trans hu (fun t ht => .inr (by simp at ht; omega)))
              clear hq hu
              by_cases hB' : now + (1 + (q : Int)) < tl
              · skip
                go_wp2_with fail
                refine (who_no g _ _ _ _ _ HS4.out (by omega)).mono ?_
                rintro e w9 ⟨rfl, hq, hu⟩
                have HS9 := hid hq
                have HU9 := hid (HU4.out.trans hu (fun t ht => .inr (by simp at ht; omega)))
                clear hq hu
                go_wp2_with fail
                go_roundg (n - (j + 1))
                case measure => have := Hj.out; omega
                case rel => exact ⟨j + 1, nd, ep, tl, now + (1 + (q : Int)), (by go_num), (by go_num), (by go_num), (by go_num), by go_num, by omega, by omega, by omega, by omega, by omega, by omega, by omega, by omega, by show _ = _; omega, HS9.out, HU9.out⟩
              · skip
                go_wp2_with fail
                refine (who_no g _ _ _ _ _ HS4.out (by omega)).mono ?_
                rintro e w9 ⟨rfl, hq, hu⟩
                have HS9 := hid hq
                have HU9 := hid (HU4.out.trans hu (fun t ht => .inr (by simp at ht; omega)))
                clear hq hu
                go_wp2_with fail
                go_roundg (n - (j + 1))
                case measure => have := Hj.out; omega
                case rel => exact ⟨j + 1, nd, ep, tl, now + (1 + (q : Int)), (by go_num), (by go_num), (by go_num), (by go_num), by go_num, by omega, by omega, by omega, by omega, by omega, by omega, by omega, by omega, by show _ = _; omega, HS9.out, HU9.out⟩
            · as_aux_lemma =>
              go_wp2_with fail
              refine (tick_any g _ _ _ _ _ _ (Hs.out.d nq) (by omega) (by omega) (by omega) (by omega)).mono ?_
              rintro e w4 ⟨rfl, hq, hu⟩
              have HS4 := hid hq
              have HU4 := hid ((Hu.out.drewN nq).trans hu (fun t ht => .inr (by simp at ht; omega)))
              clear hq hu
              by_cases hB' : now + (1 + (q : Int)) < tl
              · skip
                go_wp2_with fail
                refine (who_no g _ _ _ _ _ HS4.out (by omega)).mono ?_
                rintro e w9 ⟨rfl, hq, hu⟩
                have HS9 := hid hq
                have HU9 := hid (HU4.out.trans hu (fun t ht => .inr (by simp at ht; omega)))
                clear hq hu
                go_wp2_with fail
                go_roundg (n - (j + 1))
                case measure => have := Hj.out; omega
                case rel => exact ⟨j + 1, nd, ep, tl, now + (1 + (q : Int)), (by go_num), (by go_num), (by go_num), (by go_num), by go_num, by omega, by omega, by omega, by omega, by omega, by omega, by omega, by omega, by show _ = _; omega, HS9.out, HU9.out⟩
              · skip
                go_wp2_with fail
                refine (who_no g _ _ _ _ _ HS4.out (by omega)).mono ?_
                rintro e w9 ⟨rfl, hq, hu⟩
                have HS9 := hid hq
                have HU9 := hid (HU4.out.trans hu (fun t ht => .inr (by simp at ht; omega)))
                clear hq hu
                go_wp2_with fail
                go_roundg (n - (j + 1))
                case measure => have := Hj.out; omega
                case rel => exact ⟨j + 1, nd, ep, tl, now + (1 + (q : Int)), (by go_num), (by go_num), (by go_num), (by go_num), by go_num, by omega, by omega, by omega, by omega, by omega, by omega, by omega, by omega, by show _ = _; omega, HS9.out, HU9.out⟩
          · skip
            go_wp2_with fail
            go_quiet (first
              | (go_at_call_of 23 (Value.int .i64 b1); exact Calls.quiet_of_same ((rest_q b1 4 _ (by omega) (by omega)).mono fun _ _ ⟨he, hw⟩ => ⟨by rw [he, ← HP.out], hw⟩))
              | (go_at_call_of 23 (Value.int .i64 b2); exact Calls.quiet_of_same ((rest_q b2 20 _ (by omega) (by omega)).mono fun _ _ ⟨he, hw⟩ => ⟨by rw [he, ← HQ.out], hw⟩)))
            go_wp2_with fail
            refine (rest_some _ _ _ (by omega) (by omega)).mono ?_
            rintro e w' ⟨r, hr, -, rfl, rfl⟩
            have hr5 : r = 0 ∨ r = 1 ∨ r = 2 ∨ r = 3 ∨ r = 4 := by omega
            rcases hr5 with rfl | rfl | rfl | rfl | rfl
            · as_aux_lemma =>
              go_wp2_with fail
              refine (take_yes g _ _ _ _ _ _ _ (Hs.out.d nq) (by omega) (by omega) (by omega) (by omega) (by omega) (by omega) (by omega) (by omega) (by omega)).mono ?_
              rintro e w4 ⟨rfl, hq, hu⟩
              have HS4 := hid hq
              have HU4 := hid ((Hu.out.drewN nq).trans hu (fun t ht => .inr (by simp at ht; omega)))
              clear hq hu
              go_wp2_with fail
              refine (who_yes g _ _ _ _ _ HS4.out (by omega) (by omega) (by omega) (by omega)).mono ?_
              rintro e w9 ⟨rfl, hq, hu⟩
              have HS9 := hid hq
              have HU9 := hid (HU4.out.trans hu (fun t ht => .inr (by simp at ht; omega)))
              clear hq hu
              go_wp2_with fail
              go_roundg (n - (j + 1))
              case measure => have := Hj.out; omega
              case rel => exact ⟨j + 1, (1 + (p : Int)), ep + 1, now + (1 + (q : Int)), now, (by go_num), (by go_num), (by go_num), (by go_num), by go_num, by omega, by omega, by omega, by omega, by omega, by omega, by omega, by omega, by show _ = _; omega, HS9.out, HU9.out⟩
            · as_aux_lemma =>
              have hw' : ((1 + (p : Int)) == nd) = false := by rw [beq_eq_false_iff_ne]; omega
              go_wp2_with fail
              refine (keep_none g _ _ _ _ _ _ _ _ (Hs.out.d nq) (by omega) (by omega) (by omega)).mono ?_
              rintro e w4 ⟨rfl, rfl⟩
              have HS4 := hid (Hs.out.d nq)
              have HU4 := hid (Hu.out.drewN nq)
              go_wp2_with fail
              refine (who_no g _ _ _ _ _ HS4.out (by omega)).mono ?_
              rintro e w9 ⟨rfl, hq, hu⟩
              have HS9 := hid hq
              have HU9 := hid (HU4.out.trans hu (fun t ht => .inr (by simp at ht; omega)))
              clear hq hu
              go_wp2_with fail
              go_roundg (n - (j + 1))
              case measure => have := Hj.out; omega
              case rel => exact ⟨j + 1, nd, ep, tl, now, (by go_num), (by go_num), (by go_num), (by go_num), by go_num, by omega, by omega, by omega, by omega, by omega, by omega, by omega, by omega, by show _ = _; omega, HS9.out, HU9.out⟩
            · as_aux_lemma =>
              go_wp2_with fail
              refine (leave_no g _ _ _ _ _ _ _ (Hs.out.d nq) (by omega)).mono ?_
              rintro e w4 ⟨rfl, rfl⟩
              have HS4 := hid (Hs.out.d nq)
              have HU4 := hid (Hu.out.drewN nq)
              go_wp2_with fail
              refine (who_no g _ _ _ _ _ HS4.out (by omega)).mono ?_
              rintro e w9 ⟨rfl, hq, hu⟩
              have HS9 := hid hq
              have HU9 := hid (HU4.out.trans hu (fun t ht => .inr (by simp at ht; omega)))
              clear hq hu
              go_wp2_with fail
              go_roundg (n - (j + 1))
              case measure => have := Hj.out; omega
              case rel => exact ⟨j + 1, nd, ep, tl, now, (by go_num), (by go_num), (by go_num), (by go_num), by go_num, by omega, by omega, by omega, by omega, by omega, by omega, by omega, by omega, by show _ = _; omega, HS9.out, HU9.out⟩
            · as_aux_lemma =>
              go_wp2_with fail
              refine (tick_any g _ _ _ _ _ _ (Hs.out.d nq) (by omega) (by omega) (by omega) (by omega)).mono ?_
              rintro e w4 ⟨rfl, hq, hu⟩
              have HS4 := hid hq
              have HU4 := hid ((Hu.out.drewN nq).trans hu (fun t ht => .inr (by simp at ht; omega)))
              clear hq hu
              go_wp2_with fail
              refine (who_no g _ _ _ _ _ HS4.out (by omega)).mono ?_
              rintro e w9 ⟨rfl, hq, hu⟩
              have HS9 := hid hq
              have HU9 := hid (HU4.out.trans hu (fun t ht => .inr (by simp at ht; omega)))
              clear hq hu
              go_wp2_with fail
              go_roundg (n - (j + 1))
              case measure => have := Hj.out; omega
              case rel => exact ⟨j + 1, nd, ep, tl, now + (1 + (q : Int)), (by go_num), (by go_num), (by go_num), (by go_num), by go_num, by omega, by omega, by omega, by omega, by omega, by omega, by omega, by omega, by show _ = _; omega, HS9.out, HU9.out⟩
            · as_aux_lemma =>
              go_wp2_with fail
              refine (tick_any g _ _ _ _ _ _ (Hs.out.d nq) (by omega) (by omega) (by omega) (by omega)).mono ?_
              rintro e w4 ⟨rfl, hq, hu⟩
              have HS4 := hid hq
              have HU4 := hid ((Hu.out.drewN nq).trans hu (fun t ht => .inr (by simp at ht; omega)))
              clear hq hu
              go_wp2_with fail
              refine (who_no g _ _ _ _ _ HS4.out (by omega)).mono ?_
              rintro e w9 ⟨rfl, hq, hu⟩
              have HS9 := hid hq
              have HU9 := hid (HU4.out.trans hu (fun t ht => .inr (by simp at ht; omega)))
              clear hq hu
              go_wp2_with fail
              go_roundg (n - (j + 1))
              case measure => have := Hj.out; omega
              case rel => exact ⟨j + 1, nd, ep, tl, now + (1 + (q : Int)), (by go_num), (by go_num), (by go_num), (by go_num), by go_num, by omega, by omega, by omega, by omega, by omega, by omega, by omega, by omega, by show _ = _; omega, HS9.out, HU9.out⟩
    · go_wp2_with fail
      go_ret
      exact ⟨rfl, Hu.out⟩
end Go.Proofs.Ytmdhhembkmkfdaa.Fn
