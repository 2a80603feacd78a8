/- The walk of the statement CreditAll. -/
import Derived.Test.YtmdhhembkmkfdaaCrC
import Derived.Test.YtmdhhembkmkfdaaCrRoom
namespace Go.Proofs.Ytmdhhembkmkfdaa.Cr
open Go Go.RowKit Go.Proofs.Ytmdhhembkmkfdaa.K Go.Proofs.Ytmdhhembkmkfdaa.R

set_option maxHeartbeats 8000000 in
set_option maxRecDepth 100000 in
theorem all_walk (a0 a1 : Int) (a : Option Addr) (len cap : Nat) (xs : List Int) (w : World) (hx : IntRow w a xs) (hl : xs.length = len) (hlc : len ≤ cap) (hc : cap ≤ 9223372036854775807) :
    Calls Try.prog 10 #[.int .i64 a0, .int .i64 a1, .slice a len cap] w fun e w' => e = .returned (.bool true) ∧ Upd [] w w' := by
  have HX := hid hx
  have HL := hid hl
  clear hx hl
  go_enter Try.func10, Try.ntmps10
  go_wp2_with fail
  refine (begun_any _).mono ?_
  rintro e w1 ⟨rfl, hu⟩
  have HU1 := hid hu
  clear hu
  go_wp2_with fail
  refine (rest_some _ _ _ (by omega) (by omega)).mono ?_
  rintro e w' ⟨r, hr, -, rfl, rfl⟩
  go_wp2_with fail
  refine (rest_some _ _ _ (by omega) (by omega)).mono ?_
  rintro e w' ⟨s, hs, -, rfl, rfl⟩
  go_wp2_with fail
  have hrs : ((1 : Int) + r) = ((1 + r : Nat) : Int) := by omega
  have hss : ((1 : Int) + s) = ((1 + s : Nat) : Int) := by omega
  rw [hrs, hss]
  refine (pool_any (1 + r) (1 + s) a len cap xs _ (HX.out.upd HU1.out) HL.out hlc hc (by omega) (by omega) (by omega) (by omega)).mono ?_
  rintro e w2 ⟨g, l, p0, rfl, hq, hgd, hu, hg, hl⟩
  have HQ0 := hid hq
  have HG0 := hid hgd
  have HW : Hid (∀ t ∈ [g, l], t ∈ ([] : List Nat) ∨ w.heap.size ≤ t) := hid (fun t ht => by
    have := HU1.out.size
    simp at ht
    rcases ht with rfl | rfl
    · exact .inr (by omega)
    · exact .inr (by omega))
  have HU2 := hid (HU1.out.trans hu (fun t ht => by cases ht))
  clear hq hgd hu hrs hss HU1 HX HL hg hl
  go_wp2_with fail
  go_loopg [33] 1024 (fun d v33 wr => ∃ (t : Nat) (p : Pool), v33 = .int .i64 (t : Int) ∧ t ≤ 1024 ∧ Hid (t + d = 1024) ∧ Hid (IsPool wr g l p) ∧ Hid (Good (1 + s) (1 + r) p) ∧ Hid (Cost p (6 * d)) ∧ Hid (Upd [] w wr))
  case atStart => exact ⟨0, p0, rfl, by omega, by show _ = _; omega, HQ0.out, HG0.out, Cost.start HG0.out, HU2.out⟩
  case round =>
    clear HQ0 HG0 HU2
    obtain ⟨t, p, rfl, ht, Ht, HQ, HG, HC, HU⟩ := hrel
    by_cases htl : t < 1024
    · have htl' : (t : Int) < 1024 := by omega
      obtain ⟨k, rfl⟩ : ∃ k, gk = k + 1 := ⟨gk - 1, by have := Ht.out; omega⟩
      go_wp2_with fail
      go_loopg [9, 36] (1 + s) (fun d v9 v36 wr => ∃ (j : Nat) (q : Pool) (b : Bool), v9 = .bool b ∧ v36 = .int .i64 (j : Int) ∧ Hid (j + d = 1 + s) ∧ Hid (IsPool wr g l q) ∧ Hid (Rnd (1 + s) (1 + r) p j q b) ∧ Hid (Upd [] w wr))
      case atStart => exact ⟨0, p, true, rfl, rfl, by show _ = _; omega, HQ.out, Rnd.start HG.out, HU.out⟩
      case round =>
        clear HQ HU
        obtain ⟨j, q, b, rfl, rfl, Hj, HQ, HR, HU⟩ := hrel
        by_cases hj : j < 1 + s
        · have hjn : j < q.n := by rw [HR.out.good.n]; exact hj
          have RS := HR.out.step HG.out hj
          by_cases hm : 0 < (q.lane j).may
          · have e : q.act j = q.useOp j := if_pos hm
            rw [e] at RS
            have ds : (b && decide (tok q j = 0)) = false := by rw [decide_eq_false (by unfold tok; omega), Bool.and_false]
            rw [ds] at RS
            have HR2 := hid RS
            clear RS e ds
            have c := use_yes g l q j _ HQ.out HR.out.good.inv hjn hm
            go_wp2_with fail
            refine c.mono ?_
            rintro e w4 ⟨rfl, hq, hu⟩
            have HQ4 := hid hq
            have HU4 := hid (HU.out.trans hu HW.out)
            clear hq hu c
            go_wp2_with fail
            go_roundg (1 + s - (j + 1))
            case measure => have := Hj.out; omega
            case rel => exact ⟨j + 1, _, _, rfl, by go_num, by show _ = _; omega, HQ4.out, HR2.out, HU4.out⟩
          · by_cases hv : 0 < (q.lane j).used
            · have e : q.act j = (q.freeOp j).shared := by unfold Pool.act; rw [if_neg hm, if_pos hv]
              rw [e] at RS
              have ds : (b && decide (tok q j = 0)) = false := by rw [decide_eq_false (by unfold tok; omega), Bool.and_false]
              rw [ds] at RS
              have HR2 := hid RS
              clear RS e ds
              have c := use_no g l q j _ HQ.out hjn (by omega)
              have c2 := free_yes g l q j _ HQ.out HR.out.good.inv hjn hv
              go_wp2_with fail
              refine c.mono ?_
              rintro e w4 ⟨rfl, rfl⟩
              clear c
              go_wp2_with fail
              refine c2.mono ?_
              rintro e w5 ⟨rfl, hq, hu⟩
              have HQ4 := hid hq
              have HU4 := hid (HU.out.trans hu HW.out)
              clear hq hu c2
              go_wp2_with fail
              go_roundg (1 + s - (j + 1))
              case measure => have := Hj.out; omega
              case rel => exact ⟨j + 1, _, _, rfl, by go_num, by show _ = _; omega, HQ4.out, HR2.out, HU4.out⟩
            · have e : q.act j = q := by unfold Pool.act; rw [if_neg hm, if_neg hv]
              rw [e] at RS
              have ds : (b && decide (tok q j = 0)) = b := by rw [decide_eq_true (by unfold tok; omega), Bool.and_true]
              rw [ds] at RS
              have HR2 := hid RS
              clear RS e ds
              have c := use_no g l q j _ HQ.out hjn (by omega)
              have c2 := free_no g l q j _ HQ.out hjn (by omega)
              go_wp2_with fail
              refine c.mono ?_
              rintro e w4 ⟨rfl, rfl⟩
              clear c
              go_wp2_with fail
              refine c2.mono ?_
              rintro e w5 ⟨rfl, rfl⟩
              clear c2
              go_wp2_with fail
              go_roundg (1 + s - (j + 1))
              case measure => have := Hj.out; omega
              case rel => exact ⟨j + 1, _, _, rfl, by go_num, by show _ = _; omega, HQ.out, HR2.out, HU.out⟩
        · have hje : j = 1 + s := by have := Hj.out; omega
          subst hje
          cases b with
          | false =>
            have HC2 := hid (HR.out.cost HG.out HC.out)
            have HG2 := hid HR.out.good
            clear HR
            go_wp2_with fail
            go_roundg k
            case measure => omega
            case rel => exact ⟨t + 1, q, by go_num, by omega, by show _ = _; have := Ht.out; omega, HQ.out, HG2.out, HC2.out, HU.out⟩
          | true =>
            obtain ⟨eq, ov⟩ := HR.out.over HG.out (by omega)
            obtain rfl : p = q := eq.symm
            have OV := hid ov
            clear HR ov
            have LN := hid (fun i => Cr.Over.lane OV.out i)
            have FR := hid (Cr.Over.free OV.out)
            go_wp2_with fail
            go_loopg [53] (1 + s) (fun d v53 wr => ∃ i : Nat, v53 = .int .i64 (i : Int) ∧ Hid (i + d = 1 + s) ∧ Hid (IsPool wr g l p) ∧ Hid (Upd [] w wr))
            case atStart => exact ⟨0, rfl, by show _ = _; omega, HQ.out, HU.out⟩
            case round =>
              clear HQ HU
              obtain ⟨i, rfl, Hi, HQ, HU⟩ := hrel
              by_cases hi : i < 1 + s
              · have c := lane_any g l p i _ HQ.out (by rw [HG.out.n]; exact hi)
                rw [LN.out i] at c
                go_wp2_with fail
                refine c.mono ?_
                rintro e w6 ⟨rfl, hu⟩
                replace HU := hid (HU.out.trans hu (fun t ht => by cases ht))
                replace HQ := hid (HQ.out.upd hu (by simp) (by simp))
                clear hu c
                go_wp2_with fail
                go_roundg (1 + s - (i + 1))
                case measure => have := Hi.out; omega
                case rel => exact ⟨i + 1, by go_num, by show _ = _; omega, HQ.out, HU.out⟩
              · have hie : ¬ (i : Int) < ((1 + s : Nat) : Int) := by omega
                have c := left_any g l _ _ HQ.out
                rw [FR.out] at c
                go_wp2_with fail
                refine c.mono ?_
                rintro e w6 ⟨rfl, rfl⟩
                clear c
                go_wp2_with fail
                go_ret
                exact ⟨rfl, HU.out⟩
    · have htl' : ¬ (t : Int) < 1024 := by omega
      have hg0 : gk = 0 := by have := Ht.out; omega
      subst hg0
      have OV := hid (HC.out.over HG.out)
      have LN := hid (fun i => Cr.Over.lane OV.out i)
      have FR := hid (Cr.Over.free OV.out)
      go_wp2_with fail
      go_loopg [53] (1 + s) (fun d v53 wr => ∃ i : Nat, v53 = .int .i64 (i : Int) ∧ Hid (i + d = 1 + s) ∧ Hid (IsPool wr g l p) ∧ Hid (Upd [] w wr))
      case atStart => exact ⟨0, rfl, by show _ = _; omega, HQ.out, HU.out⟩
      case round =>
        clear HQ HU
        obtain ⟨i, rfl, Hi, HQ, HU⟩ := hrel
        by_cases hi : i < 1 + s
        · have c := lane_any g l p i _ HQ.out (by rw [HG.out.n]; exact hi)
          rw [LN.out i] at c
          go_wp2_with fail
          refine c.mono ?_
          rintro e w6 ⟨rfl, hu⟩
          replace HU := hid (HU.out.trans hu (fun t ht => by cases ht))
          replace HQ := hid (HQ.out.upd hu (by simp) (by simp))
          clear hu c
          go_wp2_with fail
          go_roundg (1 + s - (i + 1))
          case measure => have := Hi.out; omega
          case rel => exact ⟨i + 1, by go_num, by show _ = _; omega, HQ.out, HU.out⟩
        · have hie : ¬ (i : Int) < ((1 + s : Nat) : Int) := by omega
          have c := left_any g l _ _ HQ.out
          rw [FR.out] at c
          go_wp2_with fail
          refine c.mono ?_
          rintro e w6 ⟨rfl, rfl⟩
          clear c
          go_wp2_with fail
          go_ret
          exact ⟨rfl, HU.out⟩
end Go.Proofs.Ytmdhhembkmkfdaa.Cr
