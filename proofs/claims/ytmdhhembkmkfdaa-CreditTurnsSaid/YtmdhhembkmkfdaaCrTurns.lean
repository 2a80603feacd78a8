/- The walk of the statement CreditTurns: lanes that all want get their credit in turn. -/
import Derived.Test.YtmdhhembkmkfdaaCrRoom
namespace Go.Proofs.Ytmdhhembkmkfdaa.Cr
open Go Go.RowKit Go.Proofs.Ytmdhhembkmkfdaa.K Go.Proofs.Ytmdhhembkmkfdaa.R

/-! Plain -/
/-- Only lane 0 holds something: so much wanted, allowed and used. -/
structure Sole (L R : Nat) (p : Pool) (w m u : Nat) : Prop where
  inv : p.Inv
  n : p.n = L
  room : p.room = R
  zero : p.lane 0 = ⟨w, m, u⟩
  rest : ∀ i, i ≠ 0 → p.lane i = ⟨0, 0, 0⟩

theorem sole_pick {L R w m u : Nat} {p : Pool} (h : Sole L R p w m u) (hw : 0 < w) : p.pick p.n 0 = some 0 := by
  cases e : p.pick p.n 0 with
  | none =>
    have h0 := pick_none_all p h.inv.nx e
    have := want_le p 0
    rw [h.zero] at this
    simp only at this; omega
  | some k =>
    have := (pick_some p h.inv.n1 _ _ _ e).2
    by_cases hk : k = 0
    · rw [hk]
    · rw [h.rest k hk] at this; simp at this

theorem sole_share {L R : Nat} : ∀ (f : Nat) (p : Pool) (m : Nat), Sole L R p f m 0 → p.free = f → (f = 0 → p.next = 1 % L) →
    Sole L R (Pool.share f p) 0 (m + f) 0 ∧ (Pool.share f p).free = 0 ∧ (Pool.share f p).next = 1 % L
  | 0, p, m, h, hf, hx => ⟨h, hf, hx rfl⟩
  | f + 1, p, m, h, hf, hx => by
    have hp := sole_pick h (by omega)
    have hn0 : 0 < p.n := by have := h.inv.n1; omega
    have g : Sole L R (p.grant 0) f (m + 1) 0 := {
      inv := Inv.grant h.inv hn0 (by omega)
      n := by rw [← h.n]; simp [Pool.grant, Pool.n]
      room := h.room
      zero := by rw [lane_grant p 0 hn0, if_pos rfl, h.zero]; simp
      rest := fun i hi => by rw [lane_grant p 0 hn0, if_neg (fun e => hi e.symm)]; exact h.rest i hi }
    have := sole_share f (p.grant 0) (m + 1) g (by show p.free - 1 = f; omega) (fun _ => by show (0 + 1) % p.n = _; rw [h.n])
    simp only [Pool.share, hp]
    rw [show m + (f + 1) = m + 1 + f by omega]
    exact this

theorem first_want (R L : Nat) (h1 : 1 ≤ R) (h2 : R ≤ 64) (h3 : 1 ≤ L) (h4 : L ≤ 8) :
    Sole L R ((Pool.new R L).wantOp 0 R).shared 0 R 0 ∧ ((Pool.new R L).wantOp 0 R).shared.free = 0 ∧ ((Pool.new R L).wantOp 0 R).shared.next = 1 % L := by
  have hi : 0 < (Pool.new R L).n := by simp [Pool.new, Pool.n]; omega
  have l0 := lane_new R L
  have s : Sole L R ((Pool.new R L).wantOp 0 R) R 0 0 := {
    inv := Inv.wantOp (Inv.new h2 h3 h4) hi (by rw [l0]; simpa using h2)
    n := by simp [Pool.wantOp, Pool.put, Pool.new, Pool.n]
    room := rfl
    zero := by unfold Pool.wantOp; rw [lane_put_same _ _ _ hi, l0]; simp
    rest := fun i hi' => by unfold Pool.wantOp; rw [lane_put _ _ _ hi, if_neg (fun e => hi' e.symm), l0] }
  have := sole_share R _ 0 s rfl (fun e => by omega)
  rw [Nat.zero_add] at this
  exact this

theorem sole_use {L R m u : Nat} {p : Pool} (h : Sole L R p 0 (m + 1) u) : Sole L R (p.useOp 0) 0 m (u + 1) := by
  have hi : 0 < p.n := by have := h.inv.n1; omega
  exact {
    inv := Inv.useOp h.inv hi (by rw [h.zero]; simp)
    n := by rw [← h.n]; simp [Pool.useOp, Pool.put, Pool.n]
    room := h.room
    zero := by unfold Pool.useOp; rw [lane_put_same _ _ _ hi, h.zero]; simp
    rest := fun i hi' => by unfold Pool.useOp; rw [lane_put _ _ _ hi, if_neg (fun e => hi' e.symm)]; exact h.rest i hi' }

/-- All lanes before j want 64; lane 0 has used all. -/
structure Wanting (L R j : Nat) (p : Pool) : Prop where
  inv : p.Inv
  n : p.n = L
  room : p.room = R
  free : p.free = 0
  next : p.next = 1 % L
  lane : ∀ i, i < L → p.lane i = ⟨if i < j then 64 else 0, 0, if i = 0 then R else 0⟩
theorem wanting_step {L R j : Nat} {p : Pool} (h : Wanting L R j p) (hj : j < L) : Wanting L R (j + 1) (p.wantOp j 64).shared := by
  have hi : j < p.n := by rw [h.n]; exact hj
  have e : (p.wantOp j 64).shared = p.wantOp j 64 := share_zero _ h.free
  rw [e]
  exact {
    inv := Inv.wantOp h.inv hi (by rw [h.lane j hj]; simp)
    n := by rw [← h.n]; simp [Pool.wantOp, Pool.put, Pool.n]
    room := h.room
    free := h.free
    next := h.next
    lane := fun i hi' => by
      unfold Pool.wantOp
      rw [lane_put _ _ _ hi]
      by_cases e : j = i
      · subst e; rw [if_pos rfl, h.lane j hj]; simp
      · rw [if_neg e, h.lane i hi']
        have : (i < j) ↔ (i < j + 1) := by omega
        simp only [this] }

def pos (L i : Nat) : Nat := if i = 0 then L - 1 else i - 1
def cnt (L q r i : Nat) : Nat := q + if pos L i < r then 1 else 0
structure Turning (L R q r : Nat) (p : Pool) : Prop where
  inv : p.Inv
  n : p.n = L
  room : p.room = R
  lt : r < L
  free : p.free = 0
  next : p.next = if r + 1 = L then 0 else r + 1
  lane : ∀ i, i < L → p.lane i = ⟨64 - cnt L q r i, cnt L q r i, if i = 0 then R - (q * L + r) else 0⟩

theorem turning_start {L R : Nat} {p : Pool} (h : Wanting L R L p) : Turning L R 0 0 p where
  inv := h.inv
  n := h.n
  room := h.room
  lt := by have := h.inv.n1; rw [h.n] at this; omega
  free := h.free
  next := by
    rw [h.next]
    by_cases e : 0 + 1 = L
    · rw [if_pos e, ← e]
    · have := h.inv.n1; rw [h.n] at this
      rw [if_neg e, Nat.mod_eq_of_lt (by omega)]
  lane := fun i hi => by rw [h.lane i hi]; simp [cnt, hi]

theorem turning_step {L R q r : Nat} {p : Pool} (h : Turning L R q r p) (ht : q * L + r < R) :
    ∃ q' r', q' * L + r' = q * L + r + 1 ∧ Turning L R q' r' (p.freeOp 0).shared := by
  have hL : 1 ≤ L := by have := h.inv.n1; rw [h.n] at this; exact this
  have h64 : R ≤ 64 := by have := h.inv.r64; rw [h.room] at this; exact this
  have hqL : q ≤ q * L := Nat.le_mul_of_pos_right q hL
  have hi : 0 < p.n := by rw [h.n]; omega
  have hx := h.inv.nx
  have hr := h.lt
  have l0 := h.lane 0 (by omega)
  have hu : 0 < (p.lane 0).used := by rw [l0]; simp; omega
  have iF := Inv.freeOp h.inv hi hu
  have nF : (p.freeOp 0).n = p.n := by simp [Pool.freeOp, Pool.put, Pool.n]
  have fF : (p.freeOp 0).free = 1 := by show p.free + 1 = 1; rw [h.free]
  have xF : (p.freeOp 0).next = p.next := rfl
  have lF : ∀ i, i < L → (p.freeOp 0).lane i = ⟨64 - cnt L q r i, cnt L q r i, if i = 0 then R - (q * L + r + 1) else 0⟩ := fun i hi' => by
    show (p.put 0 _).lane i = _
    rw [lane_put _ _ _ hi]
    by_cases e : 0 = i
    · subst e; rw [if_pos rfl, l0]; simp; omega
    · rw [if_neg e, h.lane i hi', if_neg (fun q => e q.symm), if_neg (fun q => e q.symm)]
  have cle : ∀ i, cnt L q r i ≤ q + 1 := fun i => by unfold cnt; split <;> omega
  obtain ⟨k, hk⟩ : ∃ k, k = p.next := ⟨_, rfl⟩
  have hkL : k < L := by rw [hk, ← h.n]; exact hx
  have hpos : pos L k = r := by
    rw [hk, h.next]; unfold pos
    by_cases e : r + 1 = L
    · rw [if_pos e, if_pos rfl]; omega
    · rw [if_neg e, if_neg (by omega)]; omega
  have hpos' : ∀ i, i < L → i ≠ k → pos L i ≠ r := fun i hi' hne he => by
    have : pos L i = pos L k := by rw [he, hpos]
    unfold pos at this; split at this <;> split at this <;> omega
  have hwk : 0 < ((p.freeOp 0).lane k).want := by
    rw [lF k hkL]; simp only
    have : cnt L q r k = q := by unfold cnt; rw [hpos, if_neg (by omega)]; rfl
    omega
  have hpick : (p.freeOp 0).pick (p.freeOp 0).n 0 = some k := by
    have e : ((p.freeOp 0).next + 0) % (p.freeOp 0).n = k := by rw [xF, nF, ← hk, Nat.add_zero, h.n]; exact Nat.mod_eq_of_lt hkL
    obtain ⟨d, hd⟩ : ∃ d, (p.freeOp 0).n = d + 1 := ⟨(p.freeOp 0).n - 1, by omega⟩
    have := pick_hit (p.freeOp 0) d 0 (by rw [e]; exact hwk)
    rw [e] at this
    rw [hd]; exact this
  have hkn : k < (p.freeOp 0).n := by rw [nF, h.n]; exact hkL
  have hsh : (p.freeOp 0).shared = (p.freeOp 0).grant k := by
    rw [share_some _ k (by omega) hpick]
    exact share_zero _ (by show (p.freeOp 0).free - 1 = 0; omega)
  rw [hsh]
  have lG : ∀ i, i < L → ((p.freeOp 0).grant k).lane i = ⟨64 - (cnt L q r i + if i = k then 1 else 0), cnt L q r i + (if i = k then 1 else 0), if i = 0 then R - (q * L + r + 1) else 0⟩ := fun i hi' => by
    rw [lane_grant _ k hkn]
    by_cases e : k = i
    · subst e; rw [if_pos rfl, lF k hkL]; simp; omega
    · have e' : ¬ i = k := fun q => e q.symm
      rw [if_neg e, lF i hi']; simp [e']
  have nG : ((p.freeOp 0).grant k).n = L := by rw [← h.n, ← nF]; simp [Pool.grant, Pool.n]
  have xG : ((p.freeOp 0).grant k).next = (k + 1) % L := by show (k + 1) % (p.freeOp 0).n = _; rw [nF, h.n]
  have iG := Inv.grant iF hkn (by omega)
  have fG : ((p.freeOp 0).grant k).free = 0 := by show (p.freeOp 0).free - 1 = 0; omega
  by_cases e : r + 1 = L
  · have hk0 : k = 0 := by rw [hk, h.next, if_pos e]
    refine ⟨q + 1, 0, by rw [Nat.succ_mul]; omega, iG, nG, h.room, by omega, fG, ?_, fun i hi' => ?_⟩
    · rw [xG, hk0]
      by_cases e2 : 0 + 1 = L
      · rw [if_pos e2, ← e2]
      · rw [if_neg e2, Nat.mod_eq_of_lt (by omega)]
    · have hc : cnt L q r i + (if i = k then 1 else 0) = cnt L (q + 1) 0 i := by
        unfold cnt
        by_cases hik : i = k
        · rw [hik, hpos, if_pos rfl, if_neg (by omega), if_neg (by omega)]
        · have a := hpos' i hi' hik
          have b : pos L i < L := by unfold pos; split <;> omega
          rw [if_neg hik, if_pos (by omega), if_neg (by omega)]
      rw [lG i hi', hc, show (q + 1) * L + 0 = q * L + r + 1 by rw [Nat.succ_mul]; omega]
  · have hk0 : k = r + 1 := by rw [hk, h.next, if_neg e]
    refine ⟨q, r + 1, by omega, iG, nG, h.room, by omega, fG, ?_, fun i hi' => ?_⟩
    · rw [xG, hk0]
      by_cases e2 : r + 1 + 1 = L
      · rw [if_pos e2, e2, Nat.mod_self]
      · rw [if_neg e2, Nat.mod_eq_of_lt (by omega)]
    · have hc : cnt L q r i + (if i = k then 1 else 0) = cnt L q (r + 1) i := by
        unfold cnt
        by_cases hik : i = k
        · rw [hik, hpos, if_pos rfl, if_neg (by omega), if_pos (by omega)]
        · have a := hpos' i hi' hik
          rw [if_neg hik]
          by_cases hlt : pos L i < r
          · rw [if_pos hlt, if_pos (by omega)]
          · rw [if_neg hlt, if_neg (by omega)]
      rw [lG i hi', hc, show q * L + (r + 1) = q * L + r + 1 by omega]

theorem cnt_le (L q r i : Nat) : q ≤ cnt L q r i ∧ cnt L q r i ≤ q + 1 := by unfold cnt; split <;> omega
set_option maxHeartbeats 8000000 in
set_option maxRecDepth 100000 in
theorem turns_walk (a0 a1 : Int) (w : World) :
    Calls Try.prog 8 #[.int .i64 a0, .int .i64 a1] w fun e w' => e = .returned (.bool true) ∧ Upd [] w w' := by
  go_enter Try.func8, Try.ntmps8
  go_wp2_with fail
  refine (begun_any _).mono ?_
  rintro e w1 ⟨rfl, hu⟩
  have HU1 := hid hu
  clear hu
  go_wp2_with fail
  refine (rest_some _ _ _ (by omega) (by omega)).mono ?_
  rintro e w' ⟨r, hr, -, rfl, rfl⟩
  go_wp2_with fail
  refine (rest_some _ _ _ (by omega) (by omega)).mono ?_
  rintro e w' ⟨s, hs, -, rfl, rfl⟩
  go_wp2_with fail
  have hrs : ((1 : Int) + r) = ((1 + r : Nat) : Int) := by omega
  have hss : ((1 : Int) + s) = ((1 + s : Nat) : Int) := by omega
  rw [hrs, hss]
  obtain ⟨R, hR⟩ : ∃ R : Nat, R = 1 + r := ⟨_, rfl⟩
  obtain ⟨L, hL⟩ : ∃ L : Nat, L = 1 + s := ⟨_, rfl⟩
  have r1 : 1 ≤ R := by omega
  have r2 : R ≤ 64 := by omega
  have l1 : 1 ≤ L := by omega
  have l2 : L ≤ 8 := by omega
  rw [← hR, ← hL]
  clear hrs hss hR hL hr hs
  refine (new_any R L _ r1 r2 l1 l2).mono ?_
  rintro e w2 ⟨g, l, rfl, hq, hu, hg, hl⟩
  have HU2 := hid (HU1.out.trans hu (by simp))
  have hgw : w.heap.size ≤ g := Nat.le_trans HU1.out.size hg
  have hlw : w.heap.size ≤ l := Nat.le_trans HU1.out.size hl
  have HQ := hid hq
  have HW := hid (show ∀ t ∈ [g, l], t ∈ ([] : List Nat) ∨ w.heap.size ≤ t by intro t ht; simp at ht; rcases ht with rfl | rfl <;> omega)
  clear hq hu hg hl hgw hlw HU1
  go_wp2_with fail
  have hn0 : 0 < (Pool.new R L).n := by simp [Pool.new, Pool.n]; omega
  refine (want_yes g l _ 0 (R : Int) _ HQ.out (Inv.new r2 l1 l2) hn0 (by omega) (by rw [lane_new]; simp; omega)).mono ?_
  rintro e w3 ⟨rfl, hq, hu⟩
  rw [Int.toNat_natCast] at hq
  have HU3 := hid (HU2.out.trans hu HW.out)
  have HQ3 := hid hq
  have HF := hid (first_want R L r1 r2 l1 l2)
  clear hq hu hn0 HU2 HQ
  go_wp2_with fail
  go_loopg [36] R (fun d v36 wr => ∃ (j : Nat) (p : Pool), v36 = .int .i64 (j : Int) ∧ Hid (j + d = R) ∧ Hid (IsPool wr g l p) ∧ Hid (Sole L R p 0 (R - j) j) ∧ Hid (p.free = 0) ∧ Hid (p.next = 1 % L) ∧ Hid (Upd [] w wr))
  case atStart => exact ⟨0, _, rfl, by show _ = _; omega, HQ3.out, HF.out.1, HF.out.2.1, HF.out.2.2, HU3.out⟩
  case round =>
    clear HQ3 HF HU3
    obtain ⟨j, p, rfl, Hj, Hp, Hs, Hf, Hx, Hu⟩ := hrel
    by_cases hj : j < R
    · have hn : 0 < p.n := by rw [Hs.out.n]; omega
      have hm : 0 < (p.lane 0).may := by rw [Hs.out.zero]; simp only; omega
      have e : R - j = R - (j + 1) + 1 := by omega
      have HS := hid (sole_use (e ▸ Hs.out))
      have HN := hid hn
      have HM := hid hm
      clear hn hm e
      go_wp2_with fail
      refine (use_yes g l p 0 _ Hp.out Hs.out.inv HN.out HM.out).mono ?_
      rintro e w4 ⟨rfl, hq, hu⟩
      have HQ4 := hid hq
      have HU4 := hid (Hu.out.trans hu HW.out)
      clear hq hu
      go_wp2_with fail
      go_roundg (R - (j + 1))
      case measure => have := Hj.out; omega
      case rel => exact ⟨j + 1, _, by go_num, by show _ = _; omega, HQ4.out, HS.out, Hf.out, Hx.out, HU4.out⟩
    · have hjR : j = R := by have := Hj.out; omega
      subst hjR
      have w0 : Hid (Wanting L j 0 p) := ⟨Hs.out.inv, Hs.out.n, Hs.out.room, Hf.out, Hx.out, fun i hi => by
        by_cases e : i = 0
        · subst e; rw [Hs.out.zero]; simp
        · rw [Hs.out.rest i e]; simp [e]⟩
      clear Hs Hf Hx Hj hj
      go_wp2_with fail
      go_loopg [43] L (fun d v43 wr => ∃ (i : Nat) (p : Pool), v43 = .int .i64 (i : Int) ∧ Hid (i + d = L) ∧ Hid (IsPool wr g l p) ∧ Hid (Wanting L j i p) ∧ Hid (Upd [] w wr))
      case atStart => exact ⟨0, p, rfl, by show _ = _; omega, Hp.out, w0.out, Hu.out⟩
      case round =>
        clear Hp Hu w0
        obtain ⟨i, p, rfl, Hi, Hp, Hs, Hu⟩ := hrel
        by_cases hi : i < L
        · have HN := hid (show i < p.n by rw [Hs.out.n]; exact hi)
          have HK := hid (show ((p.lane i).want : Int) + 64 ≤ 64 by rw [Hs.out.lane i hi]; simp)
          have HS := hid (wanting_step Hs.out hi)
          go_wp2_with fail
          refine (want_yes g l p i 64 _ Hp.out Hs.out.inv HN.out (by omega) HK.out).mono ?_
          rintro e w4 ⟨rfl, hq, hu⟩
          have HQ4 := hid hq
          have HU4 := hid (Hu.out.trans hu HW.out)
          clear hq hu
          go_wp2_with fail
          go_roundg (L - (i + 1))
          case measure => have := Hi.out; omega
          case rel => exact ⟨i + 1, _, by go_num, by show _ = _; omega, HQ4.out, HS.out, HU4.out⟩
        · have hiL : i = L := by have := Hi.out; omega
          subst hiL
          have t0 := hid (turning_start Hs.out)
          clear Hs Hi hi
          go_wp2_with fail
          go_loopg [52] j (fun d v52 wr => ∃ (t q r : Nat) (p : Pool), v52 = .int .i64 (t : Int) ∧ Hid (t + d = j) ∧ Hid (q * i + r = t) ∧ Hid (IsPool wr g l p) ∧ Hid (Turning i j q r p) ∧ Hid (Upd [] w wr))
          case atStart => exact ⟨0, 0, 0, p, rfl, by show _ = _; omega, by show _ = _; omega, Hp.out, t0.out, Hu.out⟩
          case round =>
            clear Hp Hu t0
            obtain ⟨t, q, r, p, rfl, Ht, Hqr, Hp, Hs, Hu⟩ := hrel
            by_cases ht : t < j
            · have HN := hid (show 0 < p.n by rw [Hs.out.n]; omega)
              have HK := hid (show 0 < (p.lane 0).used by rw [Hs.out.lane 0 (by omega), Hqr.out]; simp; omega)
              have HS := hid (turning_step Hs.out (by rw [Hqr.out]; exact ht))
              go_wp2_with fail
              refine (free_yes g l p 0 _ Hp.out Hs.out.inv HN.out HK.out).mono ?_
              rintro e w4 ⟨rfl, hq, hu⟩
              have HQ4 := hid hq
              have HU4 := hid (Hu.out.trans hu HW.out)
              clear hq hu
              go_wp2_with fail
              go_roundg (j - (t + 1))
              case measure => have := Ht.out; omega
              case rel =>
                obtain ⟨q', r', h1, h2⟩ := HS.out
                exact ⟨t + 1, q', r', _, by go_num, by show _ = _; omega, by have := Hqr.out; show _ = _; omega, HQ4.out, h2, HU4.out⟩
            · have hqj : q ≤ j := by
                have a := Hqr.out
                have b : q ≤ q * i := Nat.le_mul_of_pos_right q l1
                have := Ht.out
                omega
              clear Ht Hqr
              go_wp2_with fail
              go_loopg [8, 9, 60] i (fun d v8 v9 v60 wr => ∃ (a b k : Nat), v8 = .int .i64 (a : Int) ∧ v9 = .int .i64 (b : Int) ∧ v60 = .int .i64 (k : Int) ∧ q ≤ a ∧ a ≤ 64 ∧ b ≤ q + 1 ∧ Hid (k + d = i) ∧ Hid (IsPool wr g l p) ∧ Hid (Upd [] w wr))
              case atStart => exact ⟨j, 0, 0, rfl, rfl, rfl, hqj, r2, by omega, by show _ = _; omega, Hp.out, Hu.out⟩
              case round =>
                clear Hp Hu
                obtain ⟨a, b, k, rfl, rfl, rfl, ha, ha2, hb, Hk, Hp, Hu⟩ := hrel
                by_cases hk : k < i
                · have HN := hid (show k < p.n by rw [Hs.out.n]; exact hk)
                  have HC := hid (show (p.lane k).may = cnt i q r k by rw [Hs.out.lane k hk])
                  have hc := cnt_le i q r k
                  obtain ⟨c, hcc⟩ : ∃ c, c = cnt i q r k := ⟨_, rfl⟩
                  rw [← hcc] at hc HC
                  clear hcc
                  obtain ⟨a', ha'⟩ : ∃ a' : Nat, min (a : Int) (c : Int) = (a' : Int) := ⟨min a c, by omega⟩
                  obtain ⟨b', hb'⟩ : ∃ b' : Nat, max (b : Int) (c : Int) = (b' : Int) := ⟨max b c, by omega⟩
                  have hmin := fun ats ty => min_nat ats ty .i64 .i64 (a : Int) (c : Int) a' ha'
                  have hmax := fun ats ty => max_nat ats ty .i64 .i64 (b : Int) (c : Int) b' hb'
                  have HAB := hid (show q ≤ a' ∧ a' ≤ 64 ∧ b' ≤ q + 1 by omega)
                  clear ha' hb' hc
                  go_wp2_with fail
                  refine (lane_any g l p k _ Hp.out HN.out).mono ?_
                  rintro e w' ⟨rfl, hu⟩
                  rw [HC.out]
                  have HU4 := hid hu
                  clear hu
                  go_wp2_with fail
                  go_roundg (i - (k + 1))
                  case measure => have := Hk.out; omega
                  case rel => exact ⟨a', b', k + 1, rfl, rfl, by go_num, HAB.out.1, HAB.out.2.1, HAB.out.2.2, by show _ = _; omega, Hp.out.upd HU4.out (by simp) (by simp), Hu.out.trans HU4.out (fun t ht => by cases ht)⟩
                · have hd : decide ((b : Int) - (a : Int) ≤ 1) = true := by rw [decide_eq_true_eq]; omega
                  go_wp2_with fail
                  go_ret
                  exact ⟨rfl, Hu.out⟩
end Go.Proofs.Ytmdhhembkmkfdaa.Cr
