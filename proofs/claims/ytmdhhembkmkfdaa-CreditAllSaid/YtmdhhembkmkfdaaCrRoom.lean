/- The walk of the statement CreditRoom: there is never more given than there is room; nothing is left while somebody wants it. -/
import Derived.Test.YtmdhhembkmkfdaaCrX
namespace Go.Proofs.Ytmdhhembkmkfdaa.Cr
open Go Go.RowKit Go.Proofs.Ytmdhhembkmkfdaa.K Go.Proofs.Ytmdhhembkmkfdaa.R

theorem lane_begun : ((((Pool.new 2 1).wantOp 0 3).shared).lane 0).may = 2 ∧ ((((Pool.new 2 1).wantOp 0 3).shared).useOp 0).free = 0 := by decide

set_option maxHeartbeats 4000000 in
set_option maxRecDepth 100000 in
theorem begun_any (w : World) : Calls Try.prog 35 #[] w fun e w' => e = .returned (.bool true) ∧ Upd [] w w' := by
  have i1 : (Pool.new 2 1).Inv := Inv.new (by omega) (by omega) (by omega)
  have i2 : ((Pool.new 2 1).wantOp 0 3).Inv := Inv.wantOp i1 (by decide) (by decide)
  have i3 := (Inv.shared i2).inv
  go_enter Try.func35, Try.ntmps35
  go_wp2_with fail
  refine (new_any 2 1 _ (by omega) (by omega) (by omega) (by omega)).mono ?_
  rintro e w1 ⟨g, l, rfl, hq, hu, hg, hl⟩
  have HQ1 := hid hq
  have HU1 := hid hu
  clear hq hu
  go_wp2_with fail
  refine (want_yes g l (Pool.new 2 1) 0 3 _ HQ1.out i1 (by decide) (by decide) (by decide)).mono ?_
  rintro e w2 ⟨rfl, hq, hu⟩
  have HQ2 := hid hq
  have HU2 := hid hu
  clear hq hu
  go_wp2_with fail
  refine (use_yes g l _ 0 _ HQ2.out i3 (by decide) (by rw [show (3 : Int).toNat = 3 from rfl, lane_begun.1]; decide)).mono ?_
  rintro e w3 ⟨rfl, hq, hu⟩
  have HQ3 := hid hq
  have HU3 := hid hu
  clear hq hu
  go_wp2_with fail
  refine (left_any g l _ _ HQ3.out).mono ?_
  rintro e w4 ⟨rfl, rfl⟩
  rw [show (3 : Int).toNat = 3 from rfl, lane_begun.2]
  go_wp2_with fail
  go_ret
  exact ⟨rfl, (HU1.out.trans HU2.out (fun t ht => .inr (by simp at ht; omega))).trans HU3.out (fun t ht => .inr (by simp at ht; omega))⟩

set_option maxHeartbeats 4000000 in
set_option maxRecDepth 100000 in
theorem room_walk (a0 a1 : Int) (a : Option Addr) (len cap : Nat) (xs : List Int) (w : World) (hx : IntRow w a xs) (hl : xs.length = len) (hlc : len ≤ cap) (hc : cap ≤ 9223372036854775807) :
    Calls Try.prog 9 #[.int .i64 a0, .int .i64 a1, .slice a len cap] w fun e w' => e = .returned (.bool true) ∧ Upd [] w w' := by
  have HX := hid hx
  have HL := hid hl
  clear hx hl
  go_enter Try.func9, Try.ntmps9
  go_wp2_with fail
  refine (begun_any _).mono ?_
  rintro e w1 ⟨rfl, hu⟩
  have HU1 := hid hu
  clear hu
  go_wp2_with fail
  refine (rest_some _ _ _ (by omega) (by omega)).mono ?_
  rintro e w' ⟨r, hr, -, rfl, rfl⟩
  go_wp2_with fail
  refine (rest_some _ _ _ (by omega) (by omega)).mono ?_
  rintro e w' ⟨s, hs, -, rfl, rfl⟩
  go_wp2_with fail
  have hrs : ((1 : Int) + r) = ((1 + r : Nat) : Int) := by omega
  have hss : ((1 : Int) + s) = ((1 + s : Nat) : Int) := by omega
  rw [hrs, hss]
  refine (pool_any (1 + r) (1 + s) a len cap xs _ (HX.out.upd HU1.out) HL.out hlc hc (by omega) (by omega) (by omega) (by omega)).mono ?_
  rintro e w2 ⟨g, l, p, rfl, hq, hgd, hu, hg, hl⟩
  have HQ := hid hq
  have HG := hid hgd
  have HU2 := hid hu
  clear hq hgd hu hrs hss
  go_wp2_with fail
  refine (left_any g l _ _ HQ.out).mono ?_
  rintro e w3 ⟨rfl, rfl⟩
  have bs := HG.out.inv.sum
  have b64 := HG.out.inv.r64
  have bw := Inv.wants HG.out.inv
  go_wp2_with fail
  go_loopg [9, 10, 36] (1 + s) (fun d v9 v10 v36 wr => ∃ j : Nat, v9 = .int .i64 ((p.free + p.pre (fun x => x.may) j + p.pre (fun x => x.used) j : Nat) : Int) ∧ v10 = .int .i64 ((p.pre (fun x => x.want) j : Nat) : Int) ∧ v36 = .int .i64 (j : Int) ∧ Hid (j + d = 1 + s) ∧ Hid (IsPool wr g l p) ∧ Hid (Upd [] w wr))
  case atStart => exact ⟨0, rfl, rfl, rfl, by show _ = _; omega, HQ.out, HU1.out.trans HU2.out (fun t ht => by cases ht)⟩
  case round =>
    obtain ⟨j, rfl, rfl, rfl, Hj, Hp, Hu⟩ := hrel
    by_cases hj : j < 1 + s
    · have hjn : j < p.n := by rw [HG.out.n]; exact hj
      have p1 := pre_succ p (fun x => x.may) j hjn
      have p2 := pre_succ p (fun x => x.used) j hjn
      have p3 := pre_succ p (fun x => x.want) j hjn
      have q1 := pre_le p (fun x => x.may) (j + 1)
      have q2 := pre_le p (fun x => x.used) (j + 1)
      have q3 := pre_le p (fun x => x.want) (j + 1)
      have q4 : p.pre (fun x => x.may) (j + 1) ≤ p.mays := q1
      have q5 : p.pre (fun x => x.used) (j + 1) ≤ p.useds := q2
      have q6 : p.pre (fun x => x.want) (j + 1) ≤ p.wants := q3
      have g1 : p.free + p.pre (fun x => x.may) j + p.pre (fun x => x.used) j + (p.lane j).may + (p.lane j).used ≤ 64 := by omega
      have g2 : p.pre (fun x => x.want) j + (p.lane j).want ≤ 512 := by omega
      have P1 := hid p1
      have P2 := hid p2
      have P3 := hid p3
      clear p1 p2 p3 q1 q2 q3 q4 q5 q6
      go_wp2_with fail
      refine (lane_any g l p j _ Hp.out hjn).mono ?_
      rintro e w' ⟨rfl, hu⟩
      have HU3 := hid hu
      clear hu
      go_wp2_with fail
      go_roundg (1 + s - (j + 1))
      case measure => have := Hj.out; omega
      case rel => exact ⟨j + 1, by rw [P1.out, P2.out]; go_num, by rw [P3.out]; go_num, by go_num, by show _ = _; omega, ⟨HU3.out.blk Hp.out.1 (by simp), HU3.out.blk Hp.out.2 (by simp)⟩, Hu.out.trans HU3.out (fun t ht => by cases ht)⟩
    · have hje : j = 1 + s := by have := Hj.out; omega
      subst hje
      have e1 : p.pre (fun x => x.may) (1 + s) = p.mays := by rw [← HG.out.n]; exact pre_all p _
      have e2 : p.pre (fun x => x.used) (1 + s) = p.useds := by rw [← HG.out.n]; exact pre_all p _
      have e3 : p.pre (fun x => x.want) (1 + s) = p.wants := by rw [← HG.out.n]; exact pre_all p _
      rw [e1, e2, e3, bs, HG.out.room]
      clear e1 e2 e3 bs
      rw [show ((1 + r : Nat) : Int) = 1 + (r : Int) from by omega]
      have hf0 : 0 ≤ (p.free : Int) := by omega
      rcases HG.out.tight with ht | ht
      · have hz : (p.free : Int) = 0 := by omega
        have HZ := hid hz
        clear hz
        go_wp2_with (first | (go_at_call 42; refine (left_any g l _ _ Hp.out).mono ?_; rintro e w3 ⟨rfl, rfl⟩; rw [HZ.out]))
        go_ret
        exact ⟨rfl, Hu.out⟩
      · rw [ht]
        by_cases hz : p.free = 0
        · have HZ := hid hz
          clear hz ht
          go_wp2_with (first | (go_at_call 42; refine (left_any g l _ _ Hp.out).mono ?_; rintro e w3 ⟨rfl, rfl⟩; rw [HZ.out]))
          go_ret
          exact ⟨rfl, Hu.out⟩
        · have hz2 : ((p.free : Int) == 0) = false := by rw [beq_eq_false_iff_ne]; omega
          clear ht
          go_wp2_with (first | (go_at_call 42; refine (left_any g l _ _ Hp.out).mono ?_; rintro e w3 ⟨rfl, rfl⟩))
          go_ret
          exact ⟨rfl, Hu.out⟩
end Go.Proofs.Ytmdhhembkmkfdaa.Cr
