/- The walk of the statement CreditDrop: who drops all leaves all that he had to those that want it. -/
import Derived.Test.YtmdhhembkmkfdaaCrRoom
namespace Go.Proofs.Ytmdhhembkmkfdaa.Cr
open Go Go.RowKit Go.Proofs.Ytmdhhembkmkfdaa.K Go.Proofs.Ytmdhhembkmkfdaa.R

/-- A sum over the first j lanes but the i-th. -/
def Pool.but (p : Pool) (f : Lane → Nat) (i : Nat) : Nat → Nat
  | 0 => 0
  | j + 1 => p.but f i j + if j = i then 0 else f (p.lane j)
theorem but_pre (p : Pool) (f : Lane → Nat) (i : Nat) : ∀ j, j ≤ p.n → p.but f i j + (if i < j then f (p.lane i) else 0) = p.pre f j
  | 0, _ => rfl
  | j + 1, h => by
    have ih := but_pre p f i j (by omega)
    rw [pre_succ p f j (by omega)]
    simp only [Pool.but]
    by_cases e : j = i
    · subst e; rw [if_pos rfl, if_pos (by omega)]; rw [if_neg (by omega)] at ih; omega
    · rw [if_neg e]
      by_cases e2 : i < j
      · rw [if_pos (by omega)]; rw [if_pos e2] at ih; omega
      · rw [if_neg (by omega)]; rw [if_neg e2] at ih; omega
theorem but_le (p : Pool) (f : Lane → Nat) (i : Nat) (j : Nat) (h : j ≤ p.n) : p.but f i j ≤ (p.lanes.map f).sum := by
  have h1 := but_pre p f i j h
  have h2 := pre_le p f j
  omega
theorem but_same (p : Pool) (f : Lane → Nat) (i : Nat) : p.but f i (i + 1) = p.but f i i := by simp [Pool.but]
theorem but_step (p : Pool) (f : Lane → Nat) (i j : Nat) (h : j ≠ i) : p.but f i (j + 1) = p.but f i j + f (p.lane j) := by simp [Pool.but, h]

/-- What dropping a lane comes to. -/
theorem drop_comes (p : Pool) (h : p.Inv) (i : Nat) (hi : i < p.n) :
    (p.dropOp i).shared.but (fun x => x.may) i p.n = p.but (fun x => x.may) i p.n + min (p.but (fun x => x.want) i p.n) (p.free + (p.lane i).may + (p.lane i).used) ∧
    (p.dropOp i).shared.free + min (p.but (fun x => x.want) i p.n) (p.free + (p.lane i).may + (p.lane i).used) = p.free + (p.lane i).may + (p.lane i).used := by
  have hd := Inv.dropOp h hi
  have s := Inv.shared hd
  have hn : (p.dropOp i).n = p.n := by simp [Pool.dropOp, Pool.n, Pool.put]
  have l0 : (p.dropOp i).lane i = ⟨0, 0, 0⟩ := lane_put_same p i ⟨0, 0, 0⟩ hi
  have l1 := s.idle i (by rw [l0])
  have m1 := mays_put p i ⟨0, 0, 0⟩ hi
  have m2 := wants_put p i ⟨0, 0, 0⟩ hi
  have e1 : (p.dropOp i).mays = (p.put i ⟨0, 0, 0⟩).mays := rfl
  have e2 : (p.dropOp i).wants = (p.put i ⟨0, 0, 0⟩).wants := rfl
  have e3 : (p.dropOp i).free = p.free + ((p.lane i).may + (p.lane i).used) := rfl
  have b1 := but_pre p (fun x => x.may) i p.n (Nat.le_refl _)
  have b2 := but_pre p (fun x => x.want) i p.n (Nat.le_refl _)
  have b3 := but_pre (p.dropOp i).shared (fun x => x.may) i p.n (by rw [s.n, hn]; exact Nat.le_refl _)
  rw [if_pos hi, pre_all] at b1 b2
  rw [if_pos hi, l1, l0] at b3
  have b4 : (p.dropOp i).shared.pre (fun x => x.may) p.n = (p.dropOp i).shared.mays := by
    have := pre_all (p.dropOp i).shared (fun x => x.may)
    rw [s.n, hn] at this; exact this
  have s1 := s.mays
  have s2 := s.free
  have b1' : p.but (fun x => x.may) i p.n + (p.lane i).may = p.mays := b1
  have b2' : p.but (fun x => x.want) i p.n + (p.lane i).want = p.wants := b2
  simp only at b3 m1 m2
  omega

set_option maxHeartbeats 8000000 in
set_option maxRecDepth 100000 in
theorem drop_walk (a0 a1 a3 : Int) (a : Option Addr) (len cap : Nat) (xs : List Int) (w : World) (hx : IntRow w a xs) (hl : xs.length = len) (hlc : len ≤ cap) (hc : cap ≤ 9223372036854775807) :
    Calls Try.prog 11 #[.int .i64 a0, .int .i64 a1, .slice a len cap, .int .i64 a3] w fun e w' => e = .returned (.bool true) ∧ Upd [] w w' := by
  have HX := hid hx
  have HL := hid hl
  clear hx hl
  go_enter Try.func11, Try.ntmps11
  go_wp2_with fail
  refine (begun_any _).mono ?_
  rintro e w1 ⟨rfl, hu⟩
  have HU1 := hid hu
  clear hu
  go_wp2_with fail
  refine (rest_some _ _ _ (by omega) (by omega)).mono ?_
  rintro e w' ⟨r, hr, -, rfl, rfl⟩
  go_wp2_with fail
  refine (rest_some _ _ _ (by omega) (by omega)).mono ?_
  rintro e w' ⟨s, hs, -, rfl, rfl⟩
  go_wp2_with fail
  have hrs : ((1 : Int) + r) = ((1 + r : Nat) : Int) := by omega
  have hss : ((2 : Int) + s) = ((2 + s : Nat) : Int) := by omega
  rw [hrs, hss]
  refine (pool_any (1 + r) (2 + s) a len cap xs _ (HX.out.upd HU1.out) HL.out hlc hc (by omega) (by omega) (by omega) (by omega)).mono ?_
  rintro e w2 ⟨g, l, p, rfl, hq, hgd, hu, hg, hl⟩
  have HQ := hid hq
  have HG := hid hgd
  have HU2 := hid hu
  clear hq hgd hu hrs hss
  go_wp2_with fail
  refine (rest_some _ _ _ (by omega) (by omega)).mono ?_
  rintro e w' ⟨i, hi, -, rfl, rfl⟩
  have hin : i < p.n := by rw [HG.out.n]; omega
  have HIN := hid hin
  clear hin
  go_wp2_with fail
  refine (lane_any g l p i _ HQ.out HIN.out).mono ?_
  rintro e w3 ⟨rfl, hu⟩
  have HU3 := hid hu
  have HQ3 := hid (HQ.out.upd hu (by simp) (by simp))
  clear hu
  go_wp2_with fail
  refine (left_any g l _ _ HQ3.out).mono ?_
  rintro e w' ⟨rfl, rfl⟩
  have bw := Inv.wants HG.out.inv
  have bs := HG.out.inv.sum
  have b64 := HG.out.inv.r64
  have bi1 := may_le p i
  have bi2 := used_le p i
  have bf : p.free + (p.lane i).may + (p.lane i).used ≤ 64 := by omega
  have bm : p.mays ≤ 64 := by omega
  have DC := hid (drop_comes p HG.out.inv i HIN.out)
  have hpn : Hid (p.n = 2 + s) := HG.out.n
  clear bs b64 bi1 bi2
  go_wp2_with fail
  go_loopg [16, 17, 61] (2 + s) (fun d v16 v17 v61 wr => ∃ j : Nat, v16 = .int .i64 ((p.but (fun x => x.want) i j : Nat) : Int) ∧ v17 = .int .i64 ((p.but (fun x => x.may) i j : Nat) : Int) ∧ v61 = .int .i64 (j : Int) ∧ Hid (j + d = 2 + s) ∧ Hid (IsPool wr g l p) ∧ Hid (Upd [] w wr))
  case atStart => exact ⟨0, rfl, rfl, rfl, by show _ = _; omega, HQ3.out, (HU1.out.trans HU2.out (fun t ht => by cases ht)).trans HU3.out (fun t ht => by cases ht)⟩
  case round =>
    obtain ⟨j, rfl, rfl, rfl, Hj, Hp, Hu⟩ := hrel
    by_cases hj : j < 2 + s
    · have hjn : j < p.n := by rw [hpn.out]; exact hj
      have q1 := but_le p (fun x => x.may) i (j + 1) (by omega)
      have q2 := but_le p (fun x => x.want) i (j + 1) (by omega)
      have q4 : p.but (fun x => x.may) i (j + 1) ≤ p.mays := q1
      have q6 : p.but (fun x => x.want) i (j + 1) ≤ p.wants := q2
      by_cases hji : j = i
      · subst hji
        have P1 := hid (but_same p (fun x => x.may) j)
        have P2 := hid (but_same p (fun x => x.want) j)
        clear q1 q2 q4 q6
        go_wp2_with fail
        refine (lane_any g l p j _ Hp.out hjn).mono ?_
        rintro e w' ⟨rfl, hu⟩
        have HU4 := hid hu
        clear hu
        go_wp2_with fail
        go_roundg (2 + s - (j + 1))
        case measure => have := Hj.out; omega
        case rel => exact ⟨j + 1, by rw [P2.out], by rw [P1.out], by go_num, by show _ = _; omega, Hp.out.upd HU4.out (by simp) (by simp), Hu.out.trans HU4.out (fun t ht => by cases ht)⟩
      · have p1 := but_step p (fun x => x.may) i j hji
        have p2 := but_step p (fun x => x.want) i j hji
        have g1 : p.but (fun x => x.may) i j + (p.lane j).may ≤ 64 := by omega
        have g2 : p.but (fun x => x.want) i j + (p.lane j).want ≤ 512 := by omega
        have hne : ((j : Int) != (i : Int)) = true := by rw [bne_iff_ne]; omega
        have P1 := hid p1
        have P2 := hid p2
        clear q1 q2 q4 q6 p1 p2 hji
        go_wp2_with fail
        refine (lane_any g l p j _ Hp.out hjn).mono ?_
        rintro e w' ⟨rfl, hu⟩
        have HU4 := hid hu
        clear hu
        go_wp2_with fail
        go_roundg (2 + s - (j + 1))
        case measure => have := Hj.out; omega
        case rel => exact ⟨j + 1, by rw [P2.out]; go_num, by rw [P1.out]; go_num, by go_num, by show _ = _; omega, Hp.out.upd HU4.out (by simp) (by simp), Hu.out.trans HU4.out (fun t ht => by cases ht)⟩
    · have hje : j = 2 + s := by have := Hj.out; omega
      subst hje
      go_wp2_with fail
      refine (drop_any g l p i _ Hp.out HG.out.inv HIN.out).mono ?_
      rintro e w5 ⟨rfl, hq, hu⟩
      have HQ5 := hid hq
      have HU5 := hid (Hu.out.trans hu (fun t ht => .inr (by have := HU1.out.size; have := HU2.out.size; simp at ht; omega)))
      clear hq hu
      obtain ⟨q, hq0⟩ : ∃ q, q = (p.dropOp i).shared := ⟨_, rfl⟩
      rw [← hq0] at HQ5 DC
      have hqn : Hid (q.n = 2 + s) := by rw [hq0]; exact ((Inv.shared (Inv.dropOp HG.out.inv HIN.out)).n.trans (by simp [Pool.dropOp, Pool.n, Pool.put])).trans hpn.out
      have hqi : Hid q.Inv := by rw [hq0]; exact (Inv.shared (Inv.dropOp HG.out.inv HIN.out)).inv
      clear hq0
      have bs := hqi.out.sum
      have b64 := hqi.out.r64
      have bm2 : q.mays ≤ 64 := by omega
      clear bs b64
      go_wp2_with fail
      go_loopg [23, 93] (2 + s) (fun d v23 v93 wr => ∃ j : Nat, v23 = .int .i64 ((q.but (fun x => x.may) i j : Nat) : Int) ∧ v93 = .int .i64 (j : Int) ∧ Hid (j + d = 2 + s) ∧ Hid (IsPool wr g l q) ∧ Hid (Upd [] w wr))
      case atStart => exact ⟨0, rfl, rfl, by show _ = _; omega, HQ5.out, HU5.out⟩
      case round =>
        obtain ⟨j, rfl, rfl, Hj, Hp, Hu⟩ := hrel
        by_cases hj : j < 2 + s
        · have hjn : j < q.n := by rw [hqn.out]; exact hj
          have q1 := but_le q (fun x => x.may) i (j + 1) (by omega)
          have q4 : q.but (fun x => x.may) i (j + 1) ≤ q.mays := q1
          by_cases hji : j = i
          · subst hji
            have P1 := hid (but_same q (fun x => x.may) j)
            clear q1 q4
            go_wp2_with fail
            refine (lane_any g l q j _ Hp.out hjn).mono ?_
            rintro e w' ⟨rfl, hu⟩
            have HU4 := hid hu
            clear hu
            go_wp2_with fail
            go_roundg (2 + s - (j + 1))
            case measure => have := Hj.out; omega
            case rel => exact ⟨j + 1, by rw [P1.out], by go_num, by show _ = _; omega, Hp.out.upd HU4.out (by simp) (by simp), Hu.out.trans HU4.out (fun t ht => by cases ht)⟩
          · have p1 := but_step q (fun x => x.may) i j hji
            have g1 : q.but (fun x => x.may) i j + (q.lane j).may ≤ 64 := by omega
            have hne : ((j : Int) != (i : Int)) = true := by rw [bne_iff_ne]; omega
            have P1 := hid p1
            clear q1 q4 p1 hji
            go_wp2_with fail
            refine (lane_any g l q j _ Hp.out hjn).mono ?_
            rintro e w' ⟨rfl, hu⟩
            have HU4 := hid hu
            clear hu
            go_wp2_with fail
            go_roundg (2 + s - (j + 1))
            case measure => have := Hj.out; omega
            case rel => exact ⟨j + 1, by rw [P1.out]; go_num, by go_num, by show _ = _; omega, Hp.out.upd HU4.out (by simp) (by simp), Hu.out.trans HU4.out (fun t ht => by cases ht)⟩
        · have hje : j = 2 + s := by have := Hj.out; omega
          subst hje
          have d1 := DC.out.1
          have d2 := DC.out.2
          rw [hpn.out] at d1 d2
          have k1 : p.but (fun x => x.may) i (2 + s) ≤ p.mays := but_le p (fun x => x.may) i (2 + s) (by rw [hpn.out]; omega)
          have k2 : p.but (fun x => x.want) i (2 + s) ≤ p.wants := but_le p (fun x => x.want) i (2 + s) (by rw [hpn.out]; omega)
          obtain ⟨m, hm⟩ : ∃ m : Nat, min (p.but (fun x => x.want) i (2 + s)) (p.free + (p.lane i).may + (p.lane i).used) = m := ⟨_, rfl⟩
          have hmin := fun ats ty => min_nat ats ty .i64 .i64 ((p.but (fun x => x.want) i (2 + s) : Nat) : Int) ((p.free : Int) + ((p.lane i).may : Int) + ((p.lane i).used : Int)) m (by omega)
          rw [hm] at d1 d2
          have hm2 : m ≤ 64 := by omega
          have t1 : (((q.but (fun x => x.may) i (2 + s) : Nat) : Int) == ((p.but (fun x => x.may) i (2 + s) : Nat) : Int) + (m : Int)) = true := by rw [beq_iff_eq]; omega
          have t2 : ((q.free : Int) == (p.free : Int) + ((p.lane i).may : Int) + ((p.lane i).used : Int) - (m : Int)) = true := by rw [beq_iff_eq]; omega
          have km : p.but (fun x => x.may) i (2 + s) ≤ 64 := by omega
          clear d1 d2 hm k1 k2 DC
          go_wp2_with fail
          refine (left_any g l _ _ Hp.out).mono ?_
          rintro e w6 ⟨rfl, rfl⟩
          go_wp2_with fail
          go_ret
          exact ⟨rfl, Hu.out⟩
end Go.Proofs.Ytmdhhembkmkfdaa.Cr
