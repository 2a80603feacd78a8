/- The walk of the statement WeightHalves: a reference handed on sixteen times. -/
import Derived.Test.YtmdhhembkmkfdaaWh
namespace Go.Proofs.Ytmdhhembkmkfdaa.Wt
open Go Go.RowKit Go.Proofs.Ytmdhhembkmkfdaa.K Go.Proofs.Ytmdhhembkmkfdaa.M Go.Proofs.Ytmdhhembkmkfdaa.O Go.Proofs.Ytmdhhembkmkfdaa.R

set_option maxHeartbeats 4000000 in
set_option maxRecDepth 100000 in
theorem halves_walk (n : Int) (w : World) : Calls Try.prog 12 #[.int .i64 n] w fun e w' => e = .returned (.bool true) ∧ Upd [] w w' := by
  go_enter Try.func12, Try.ntmps12
  go_wp2_with fail
  refine (begun_any w).mono ?_
  rintro e w1 ⟨rfl, hu⟩
  have HU := hid hu
  clear hu
  go_wp2_with fail
  refine (new_any 2 w1 (by omega) (by omega)).mono ?_
  rintro e w2 ⟨g, v2, bs, rfl, hi, hu⟩
  have HI := hid hi
  have HU2 := hid (HU.out.trans hu (fun t ht => by cases ht))
  have hB : w.heap.size ≤ w1.heap.size := HU.out.size
  clear hi hu
  go_wp2_with fail
  refine (make_yes HI.out 0 (by show 0 < 2; omega) (by show 0 < 20; omega)).mono ?_
  rintro e w3 ⟨rfl, ⟨v1', hi⟩, ho⟩
  have HP : Hid (P0 w1.heap.size g v2 bs w3 0 65536) := hid ⟨_, _, _, hi, ⟨rfl, rfl, rfl, by decide, rfl, by decide, by decide, Nat.le_refl _⟩⟩
  have HU3 := hid (ho.after HU2.out hB)
  clear hi ho
  go_wp2_with fail
  go_loopg [7, 8, 27] 16 (fun d v7 v8 v27 wr => ∃ (i a W : Nat), v7 = .int .i64 (a : Int) ∧ v8 = .int .i64 (W : Int) ∧ v27 = .int .i64 (i : Int) ∧ i ≤ 16 ∧ a < 2 ∧ Hid (i + d = 16) ∧ Hid (W = 2 ^ (16 - i)) ∧ Hid (P0 w1.heap.size g v2 bs wr a W) ∧ Hid (Upd [] w wr))
  case atStart => exact ⟨0, 0, 65536, rfl, rfl, rfl, by omega, by omega, hid (by omega), hid (by decide), HP, HU3⟩
  case round =>
    obtain ⟨i, a, W, rfl, rfl, rfl, hi, ha, Hd, HW, Hp, Hu⟩ := hrel
    by_cases hi16 : i < 16
    · have hi' : (i : Int) < 16 := by omega
      obtain ⟨f, hf⟩ : ∃ f, 16 - i = f + 1 := ⟨15 - i, by omega⟩
      have hW2 : 2 ≤ W := by rw [HW.out, hf]; have : 1 ≤ 2 ^ f := Nat.one_le_two_pow; omega
      have HW' : Hid (W / 2 = 2 ^ (16 - (i + 1))) := by rw [HW.out, hf, show 16 - (i + 1) = f by omega]; show _ / 2 = _; omega
      have hWm : W ≤ 65536 := by rw [HW.out]; exact Nat.pow_le_pow_right (by omega) (show 16 - i ≤ 16 by omega)
      have HF := hid hf
      clear hf
      have ha' : a = 0 ∨ a = 1 := by omega
      clear ha
      rcases ha' with rfl | rfl
      · go_wp2_with fail
        refine (h_has Hp.out (by omega)).mono ?_
        rintro e w4 ⟨k, hk, rfl, rfl⟩
        have hk' : (W : Int) ≤ (k : Int) := by omega
        go_wp2_with fail
        refine (h_send Hp.out hW2 (b := 1) rfl).mono ?_
        rintro e w5 ⟨rfl, hp, ho⟩
        have Hp1 := hid hp
        have Hu1 := hid (ho.after Hu.out hB)
        clear hp ho
        go_wp2_with fail
        refine (h_come Hp1.out hW2).mono ?_
        rintro e w6 ⟨rfl, hp, ho⟩
        have Hp2 := hid hp
        have Hu2 := hid (ho.after Hu1.out hB)
        clear hp ho
        go_wp2_with fail
        go_roundg f
        case measure => have := HF.out; have := Hd.out; omega
        case rel => exact ⟨i + 1, 1, W / 2, rfl, by go_num, by go_num, by omega, by omega, hid (by have := HF.out; have := Hd.out; omega), HW', hid Hp2.out.p0, Hu2⟩
      · go_wp2_with fail
        refine (h_has Hp.out (by omega)).mono ?_
        rintro e w4 ⟨k, hk, rfl, rfl⟩
        have hk' : (W : Int) ≤ (k : Int) := by omega
        go_wp2_with fail
        refine (h_send Hp.out hW2 (b := 0) rfl).mono ?_
        rintro e w5 ⟨rfl, hp, ho⟩
        have Hp1 := hid hp
        have Hu1 := hid (ho.after Hu.out hB)
        clear hp ho
        go_wp2_with fail
        refine (h_come Hp1.out hW2).mono ?_
        rintro e w6 ⟨rfl, hp, ho⟩
        have Hp2 := hid hp
        have Hu2 := hid (ho.after Hu1.out hB)
        clear hp ho
        go_wp2_with fail
        refine (rest_some _ _ _ (by omega) (by omega)).mono ?_
        rintro e w7 ⟨r, hr, -, rfl, rfl⟩
        have hr' : r = 0 ∨ r = 1 := by omega
        clear hr
        rcases hr' with rfl | rfl
        · go_wp2_with fail
          refine (h_drop Hp2.out).mono ?_
          rintro e w8 ⟨rfl, hp, ho⟩
          have Hp3 := hid hp
          have Hu3 := hid (ho.after Hu2.out hB)
          clear hp ho
          go_wp2_with fail
          refine (h_home Hp3.out).mono ?_
          rintro e w9 ⟨rfl, hp, ho⟩
          have Hp4 := hid hp
          have Hu4 := hid (ho.after Hu3.out hB)
          clear hp ho
          go_wp2_with fail
          go_roundg f
          case measure => have := HF.out; have := Hd.out; omega
          case rel => exact ⟨i + 1, 0, W / 2, rfl, by go_num, by go_num, by omega, by omega, hid (by have := HF.out; have := Hd.out; omega), HW', Hp4, Hu4⟩
        · go_wp2_with fail
          go_roundg f
          case measure => have := HF.out; have := Hd.out; omega
          case rel => exact ⟨i + 1, 0, W / 2, rfl, by go_num, by go_num, by omega, by omega, hid (by have := HF.out; have := Hd.out; omega), HW', hid Hp2.out.p0, Hu2⟩
    · obtain rfl : i = 16 := by omega
      have hW1 : W = 1 := HW.out
      subst hW1
      go_wp2_with fail
      refine (h_has Hp.out (by omega)).mono ?_
      rintro e w4 ⟨k, hk, rfl, rfl⟩
      have hk' : 1 ≤ (k : Int) := by omega
      go_wp2_with fail
      go_ret
      exact ⟨rfl, Hu.out⟩
end Go.Proofs.Ytmdhhembkmkfdaa.Wt
