/- The walk of the statement WeightSafe: nothing is free that is referred to; no weight is lost. -/
import Derived.Test.YtmdhhembkmkfdaaWq
import Derived.Test.YtmdhhembkmkfdaaWh
namespace Go.Proofs.Ytmdhhembkmkfdaa.Wt
open Go Go.RowKit Go.Proofs.Ytmdhhembkmkfdaa.K Go.Proofs.Ytmdhhembkmkfdaa.M Go.Proofs.Ytmdhhembkmkfdaa.O

/-- Freed and sum of thing t agree. -/
theorem p_freed {B g : Nat} {v2 : Value} {bs : List Nat} {w : World} {m t : Nat} (h : PW B g v2 bs (Made m) w) (ht : t < m) :
    ∃ O : Nat, O ≤ 65536 ∧ (Calls Try.prog 52 #[.pointer (some ⟨g, 0, none⟩), .int .i64 (t : Int)] w fun e w' => e = .returned (.tuple #[.bool (decide (O = 0)), .int .i64 0]) ∧ w' = w) ∧
      (Calls Try.prog 53 #[.pointer (some ⟨g, 0, none⟩), .int .i64 (t : Int)] w fun e w' => ∃ A K : Nat, e = .returned (.tuple #[.int .i64 (A : Int), .int .i64 (K : Int)]) ∧ A + K = O ∧ Upd [] w w') := by
  obtain ⟨s, v1, v3, h1, h2, h3⟩ := h
  have ht' : t < s.things.length := by rw [show s.things.length = m from h3]; exact ht
  refine ⟨(s.things.getD t noThing).out, h2.top t ht', ?_, sum_any h1 h2 t ht'⟩
  have := freed_any h1 t ht'
  rw [h2.fr t ht'] at this
  exact this

set_option maxHeartbeats 4000000 in
set_option maxRecDepth 100000 in
theorem safe_walk (a : Option Addr) (len cap : Nat) (xs : List Int) (w : World) (hx : IntRow w a xs) (hl : xs.length = len) (hlc : len ≤ cap) (hc : cap ≤ 9223372036854775807) :
    Calls Try.prog 13 #[.slice a len cap] w fun e w' => e = .returned (.bool true) ∧ Upd [] w w' := by
  have HX := hid hx
  have HL := hid hl
  clear hx hl
  go_enter Try.func13, Try.ntmps13
  go_wp2_with fail
  refine (begun_any w).mono ?_
  rintro e w1 ⟨rfl, hu⟩
  have HU := hid hu
  clear hu
  go_wp2_with fail
  refine (weights_any a len cap xs w1 (HX.out.upd HU.out) HL.out hlc hc).mono ?_
  rintro e w2 ⟨g, v2, bs, m, rfl, hm, hp, hu⟩
  have HP := hid hp
  have HU2 := hid (HU.out.trans hu (fun t ht => by cases ht))
  clear hp hu
  go_wp2_with fail
  go_loopg [22] m (fun d v22 wr => ∃ (t : Nat), v22 = .int .i64 (t : Int) ∧ t ≤ m ∧ Hid (t + d = m) ∧ Hid (PW w1.heap.size g v2 bs (Made m) wr) ∧ Hid (Upd [] w wr))
  case atStart => exact ⟨0, rfl, by omega, hid (by omega), HP, HU2⟩
  case round =>
    obtain ⟨t, rfl, ht, Hd, Hp, Hu⟩ := hrel
    by_cases htm : t < m
    · obtain ⟨O, hO, fr, sm⟩ := p_freed Hp.out htm
      have SM := hid sm
      clear sm
      go_wp2_with fail
      refine fr.mono ?_
      rintro e w3 ⟨rfl, rfl⟩
      clear fr
      go_wp2_with fail
      refine SM.out.mono ?_
      rintro e w4 ⟨A, K, rfl, hAK, hu⟩
      have Hp4 := hid (Hp.out.upd hu)
      have Hu4 := hid (Hu.out.trans hu (fun t ht => by cases ht))
      clear hu
      have k1 : ¬ (65536 : Int) < (A : Int) + (K : Int) := by omega
      by_cases z : O = 0
      · have z1 : A = 0 := by omega
        have z2 : K = 0 := by omega
        subst z1
        subst z2
        subst z
        go_wp2_with fail
        go_roundg (m - (t + 1))
        case measure => have := Hd.out; omega
        case rel => exact ⟨t + 1, by go_num, by omega, hid (by omega), Hp4, Hu4⟩
      · have z1 : ((A : Int) + (K : Int) == 0) = false := by rw [beq_eq_false_iff_ne]; omega
        rw [decide_eq_false z]
        go_wp2_with fail
        go_roundg (m - (t + 1))
        case measure => have := Hd.out; omega
        case rel => exact ⟨t + 1, by go_num, by omega, hid (by omega), Hp4, Hu4⟩
    · obtain rfl : t = m := by omega
      go_wp2_with fail
      go_ret
      exact ⟨rfl, Hu.out⟩
end Go.Proofs.Ytmdhhembkmkfdaa.Wt
