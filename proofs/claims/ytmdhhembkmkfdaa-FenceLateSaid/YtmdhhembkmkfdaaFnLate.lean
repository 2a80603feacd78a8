/- The walk of the statement FenceLate: a former holder cannot overwrite what a later one has written. -/
import Derived.Test.YtmdhhembkmkfdaaFn
namespace Go.Proofs.Ytmdhhembkmkfdaa.Fn
open Go Go.RowKit Go.Proofs.Ytmdhhembkmkfdaa.K Go.Proofs.Ytmdhhembkmkfdaa.R

set_option maxHeartbeats 4000000 in
set_option maxRecDepth 100000 in
theorem late_walk (a0 a1 a2 : Int) (a : Option Addr) (len cap : Nat) (xs : List Int) (w : World) (hx : IntRow w a xs) (hl : xs.length = len) (hlc : len ≤ cap) (hc : cap ≤ 9223372036854775807) :
    Calls Try.prog 6 #[.int .i64 a0, .int .i64 a1, .int .i64 a2, .slice a len cap] w fun e w' => e = .returned (.bool true) ∧ Upd [] w w' := by
  have HX := hid hx
  have HL := hid hl
  clear hx hl
  obtain ⟨n, hn⟩ : ∃ n : Nat, min (len : Int) 50 = (n : Int) := ⟨min len 50, by omega⟩
  have hmin := fun ats ty => min_nat ats ty .i64 .i64 (len : Int) 50 n hn
  have hn1 : n ≤ len := by omega
  have hn2 : n ≤ 50 := by omega
  clear hn
  go_enter Try.func6, Try.ntmps6
  go_wp2_with fail
  refine (begun_any _).mono ?_
  rintro e w1 ⟨rfl, hu⟩
  have HU1 := hid hu
  clear hu
  go_wp2_with fail
  refine (new_any _).mono ?_
  rintro e w2 ⟨g, rfl, hq, hu, hg⟩
  have HQ2 := hid hq
  have HU2 := hid hu
  clear hq hu
  go_wp2_with fail
  refine (newS_any _).mono ?_
  rintro e w3 ⟨s, rfl, hq, hu, hs⟩
  have HS3 := hid hq
  have HU3 := hid hu
  have HQ3 := hid (HQ2.out.upd hu (by simp))
  have hgs : g ≠ s := blk_ne HQ3.out hq (by decide)
  clear hq hu
  go_wp2_with fail
  refine (rest_some _ _ _ (by omega) (by omega)).mono ?_
  rintro e w' ⟨r, hr, -, rfl, rfl⟩
  go_wp2_with fail
  refine (take_yes g 0 0 0 0 1 _ _ HQ3.out (by omega) (by omega) (by omega) (by omega) (by omega) (by omega) (by omega) (by omega) (.inl rfl)).mono ?_
  rintro e w4 ⟨rfl, hq, hu⟩
  have HQ4 := hid hq
  have HU4 := hid hu
  have HS4 := hid (HS3.out.upd hu (by simp; omega))
  clear hq hu
  go_wp2_with fail
  refine (put_yes s _ _ _ _ _ _ HS4.out (by omega) (by omega)).mono ?_
  rintro e w5 ⟨rfl, hq, hu⟩
  have HS5 := hid hq
  have HU5 := hid hu
  have HQ5 := hid (HQ4.out.upd hu (by simp; omega))
  clear hq hu
  go_wp2_with fail
  refine (tick_any g _ _ _ _ _ _ HQ5.out (by omega) (by omega) (by omega) (by omega)).mono ?_
  rintro e w6 ⟨rfl, hq, hu⟩
  have HQ6 := hid hq
  have HU6 := hid hu
  have HS6 := hid (HS5.out.upd hu (by simp; omega))
  clear hq hu
  go_wp2_with fail
  refine (take_yes g _ _ _ _ 2 _ _ HQ6.out (by omega) (by omega) (by omega) (by omega) (by omega) (by omega) (by omega) (by omega) (.inr (by omega))).mono ?_
  rintro e w7 ⟨rfl, hq, hu⟩
  have HQ7 := hid hq
  have HU7 := hid hu
  have HS7 := hid (HS6.out.upd hu (by simp; omega))
  clear hq hu
  go_wp2_with fail
  refine (put_yes s _ _ _ _ _ _ HS7.out (by omega) (by omega)).mono ?_
  rintro e w8 ⟨rfl, hq, hu⟩
  have HS8 := hid hq
  have HU8 := hid hu
  have HQ8 := hid (HQ7.out.upd hu (by simp; omega))
  clear hq hu
  go_wp2_with fail
  refine (keep_none g _ _ _ _ 1 _ 5 _ HQ8.out (by omega) (by omega) (by omega)).mono ?_
  rintro e w' ⟨rfl, rfl⟩
  have z1 := HU1.out.size
  have z2 := HU2.out.size
  have hgs0 : ∀ t, t = g ∨ t = s → w.heap.size ≤ t := by rintro t (rfl | rfl) <;> omega
  have HUA := hid (((((((HU1.out.trans HU2.out (fun t ht => by cases ht)).trans HU3.out (fun t ht => by cases ht)).trans HU4.out (fun t ht => .inr (hgs0 t (by simp at ht; omega)))).trans HU5.out (fun t ht => .inr (hgs0 t (by simp at ht; omega)))).trans HU6.out (fun t ht => .inr (hgs0 t (by simp at ht; omega)))).trans HU7.out (fun t ht => .inr (hgs0 t (by simp at ht; omega)))).trans HU8.out (fun t ht => .inr (hgs0 t (by simp at ht; omega))))
  have HGS := hid hgs0
  clear z1 z2 hgs0
  go_wp2_with fail
  go_loopg [15, 78] n (fun d v15 v78 wr => ∃ j : Nat, v15 = .int .i64 (j : Int) ∧ v78 = .int .i64 (j : Int) ∧ Hid (j + d = n) ∧ Hid (IsS wr s 2 a2 (j : Int)) ∧ Hid (Upd [] w wr))
  case atStart => exact ⟨0, rfl, rfl, by show _ = _; omega, HS8.out, HUA.out⟩
  case round =>
    obtain ⟨j, rfl, rfl, Hj, Hs, Hu⟩ := hrel
    by_cases hj : j < n
    · obtain ⟨x, rfl, hc⟩ := HX.out.upd Hu.out j (by rw [HL.out]; omega)
      obtain ⟨k, hk⟩ : ∃ k, k = xs.getD j 0 := ⟨_, rfl⟩
      rw [← hk] at hc
      clear hk
      go_wp2_with fail
      refine (put_no s _ _ _ _ _ _ Hs.out (by omega) (by omega) (by omega) (by omega)).mono ?_
      rintro e w9 ⟨rfl, hq, hu⟩
      have HS9 := hid hq
      have HU9 := hid hu
      clear hq hu
      go_wp2_with fail
      go_roundg (n - (j + 1))
      case measure => have := Hj.out; omega
      case rel => exact ⟨j + 1, by go_num, by go_num, by show _ = _; omega, HS9.out, Hu.out.trans HU9.out (fun t ht => .inr (HGS.out t (by simp at ht; omega)))⟩
    · go_wp2_with fail
      refine (get_any s _ _ _ _ Hs.out).mono ?_
      rintro e w9 ⟨rfl, hq, hu⟩
      have HU9 := hid hu
      clear hq hu
      go_wp2_with fail
      go_ret
      exact ⟨rfl, Hu.out.trans HU9.out (fun t ht => .inr (HGS.out t (by simp at ht; omega)))⟩
end Go.Proofs.Ytmdhhembkmkfdaa.Fn
