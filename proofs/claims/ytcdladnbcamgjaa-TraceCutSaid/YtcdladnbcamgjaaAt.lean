/- The walks of trace.At, trace.alike, slices.EqualFunc at events, and trace.Same. -/
import Derived.Test.YtcdladnbcamgjaaLd
namespace Go.Proofs.Ytcdladnbcamgjaa.At
open Go Go.RowKit Go.Proofs.Ytcdladnbcamgjaa.K Go.Proofs.Ytcdladnbcamgjaa.M Go.Proofs.Ytcdladnbcamgjaa.Ev Go.Proofs.Ytcdladnbcamgjaa.Ck Go.Proofs.Ytcdladnbcamgjaa.O Go.Proofs.Ytcdladnbcamgjaa.Th Go.Proofs.Ytcdladnbcamgjaa.Hi Go.Proofs.Ytcdladnbcamgjaa.Ha Go.Proofs.Ytcdladnbcamgjaa.LdT

def atS (l : List Ev) (p : Nat) (k : Nat) : Bool := decide ((ev l k).place = p)
/-- The events of a place. -/
def atL (l : List Ev) (p : Nat) : List Ev := sub l (atS l p) l.length

set_option maxHeartbeats 8000000 in
set_option maxRecDepth 100000 in
theorem at_any (a : Option Addr) (cap : Nat) (l : List Ev) (n p : Nat) (w : World) (hx : EvRow w a l) (hnl : n = l.length) (hlc : n ≤ cap) (hc : cap ≤ 9223372036854775807) (hn : n ≤ 200) (hv : Valid l) (hp : p < 8) :
    Calls Try.prog 50 #[.slice a n cap, .int .i64 (p : Int)] w fun e w' => ∃ v, e = .returned (.tuple #[v, .int .i64 0]) ∧ w'.ownsRow w.heap.size 31 3 v (atL l p).length (evCells (atL l p)) ∧ Upd [] w w' := by
  obtain ⟨i31, hi31, hz31a, hz31b, hz31c⟩ := info_parts info31
  have HI31 := hid hi31
  have HA31 := hid hz31a
  have HB31 := hid hz31b
  have HC31 := hid hz31c
  have chk := check_any a cap l w hx (by omega) hc (by omega)
  rw [← hnl] at chk
  have HX := hid hx
  have HN := hid hnl
  have HV := hid hv
  clear hnl hx hv hi31 hz31a hz31b hz31c
  obtain ⟨B, hB⟩ : ∃ B, B = w.heap.size := ⟨_, rfl⟩
  have HBS := hid hB
  rw [← hB]
  clear hB
  have hp8 : (p : Int) < 8 := by omega
  have d1 : decide ((p : Int) < 0) = false := by rw [decide_eq_false_iff_not]; omega
  have d2 : decide (8 ≤ (p : Int)) = false := by rw [decide_eq_false_iff_not]; omega
  have d3 : decide (8 ≤ p) = false := by rw [decide_eq_false_iff_not]; omega
  go_enter Try.func50, Try.ntmps50
  go_wp2_with fail
  refine chk.mono ?_
  rintro e w1 ⟨c, rfl, hc0, hu⟩
  have hc00 : c = 0 := hc0.2 HV.out
  subst hc00
  have U1 := hid hu
  clear hu hc0 chk
  go_wp2_with fail
  go_loopg [7, 23] n (fun d v7 v23 wr => ∃ (j : Nat), v23 = .int .i64 (j : Int) ∧ j ≤ n ∧ Hid (j + d = n) ∧ Hid (wr.ownsRow B 31 3 v7 (sub l (atS l p) j).length (evCells (sub l (atS l p) j))) ∧ Hid (Upd [] w wr))
  case atStart => exact ⟨0, rfl, by omega, by show _ = _; omega, World.ownsRow_nil _ _ _ _, U1.out⟩
  case round =>
    clear U1
    obtain ⟨j, rfl, hjn, Hj, Ho, Hu⟩ := hrel
    by_cases hj : j < n
    · have hjl := hid (show j < l.length by rw [← HN.out]; exact hj)
      obtain ⟨g, rfl, c0, c1, c2⟩ := HX.out.upd Hu.out j hjl.out
      obtain ⟨⟨pl, kd, ms⟩, hev⟩ : ∃ ev, ev = l.getD j noEv := ⟨_, rfl⟩
      rw [← hev] at c0 c1 c2
      simp only at c0 c1 c2
      have HE : Hid (ev l j = ⟨pl, kd, ms⟩) := hev.symm
      clear hev
      have hsl := sub_le l (atS l p) j
      obtain ⟨sb, hsb⟩ : ∃ sb, sb = sub l (atS l p) j := ⟨_, rfl⟩
      rw [← hsb] at Ho hsl
      have HS := hid hsb
      clear hsb
      have hws := hid Hu.out.size
      have hjn' : (j : Int) < (n : Int) := by omega
      by_cases hpp : pl = p
      · have b : ((pl : Int) == (p : Int)) = true := by rw [beq_iff_eq]; omega
        have HSJ : Hid (atS l p j = true) := by show _ = _; simp only [atS, HE.out, hpp, decide_true]
        have HPP := hid hpp
        clear hpp
        go_wp2_with (first | (at_builtin; refine wpList_app (W := wr.alloc (.cells #[.int .i64 (pl : Int), .int .i64 (kd : Int), .int .i64 (ms : Int)] 31)) rfl (.tmp 31) (.tmp 33) 24 rfl B 31 i31 _ 3 24 Try.underlying24 HI31.out HA31.out HB31.out HC31.out rfl (by decide) u7 sb.length (evCells sb) rfl (Ho.out.alloc _) [.int .i64 (pl : Int), .int .i64 (kd : Int), .int .i64 (ms : Int)] 31 (by first | rfl | (rw [World.size_alloc]; rfl)) rfl (evVals_one ⟨pl, kd, ms⟩) (by omega) (by omega) (by have := hws.out; have := HBS.out; simp; omega) ?_; intro v6 w6 hw6 hu6 hl6; have HW6 := hid hw6; have HU6 := hid hu6; clear hw6 hu6 hl6))
        go_roundg (n - (j + 1))
        case measure => have := Hj.out; omega
        case rel =>
          have e : sub l (atS l p) (j + 1) = sb ++ [⟨pl, kd, ms⟩] := by rw [sub_yes HSJ.out, ← HS.out, HE.out]
          refine ⟨j + 1, by go_num, by omega, by show _ = _; omega, ?_, (Hu.out.alloc _).trans HU6.out (fun t ht => .inr (by rw [← HBS.out]; exact own_ge Ho.out t (by simpa using ht)))⟩
          rw [e, List.length_append, evCells_snoc]; exact HW6.out
      · have b : ((pl : Int) == (p : Int)) = false := by rw [beq_eq_false_iff_ne]; omega
        have HSJ : Hid (atS l p j = false) := by show _ = _; simp only [atS, HE.out, decide_eq_false hpp]
        clear hpp
        go_wp2_with fail
        go_roundg (n - (j + 1))
        case measure => have := Hj.out; omega
        case rel => exact ⟨j + 1, by go_num, by omega, by show _ = _; omega, by rw [sub_no HSJ.out, ← HS.out]; exact Ho.out.alloc _, Hu.out.alloc _⟩
    · obtain rfl : j = n := by omega
      go_wp2_with fail
      go_ret2
      refine ⟨_, rfl, ?_, Hu.out⟩
      have := Ho.out
      rw [HN.out] at this
      exact this

/-- Two events that are alike but for what is not looked at. -/
def like (e f : Ev) : Bool := decide (e.place = f.place) && decide (e.kind = f.kind) && (decide (e.kind = 1) || decide (e.msg = f.msg))
theorem like_self (e : Ev) : like e e = true := by simp [like]

set_option maxHeartbeats 4000000 in
theorem alike_any (p k m p' k' m' : Nat) (w : World) :
    Calls Try.prog 73 #[.agg #[.int .i64 (p : Int), .int .i64 (k : Int), .int .i64 (m : Int)], .agg #[.int .i64 (p' : Int), .int .i64 (k' : Int), .int .i64 (m' : Int)]] w fun e w' => e = .returned (.bool (like ⟨p, k, m⟩ ⟨p', k', m'⟩)) ∧ Upd [] w w' := by
  have U : Hid (Upd [] w ((w.alloc (.cells #[.int .i64 (p : Int), .int .i64 (k : Int), .int .i64 (m : Int)] 31)).alloc (.cells #[.int .i64 (p' : Int), .int .i64 (k' : Int), .int .i64 (m' : Int)] 31))) := ((Upd.refl [] w).alloc _).alloc _
  have f : ∀ a b : Nat, ((a : Int) == (b : Int)) = decide (a = b) := fun a b => by rw [Bool.eq_iff_iff, beq_iff_eq, decide_eq_true_eq]; omega
  have f1 : ((k : Int) == 1) = decide (k = 1) := by rw [Bool.eq_iff_iff, beq_iff_eq, decide_eq_true_eq]; omega
  have F := hid f
  have F1 := hid f1
  clear f f1
  cases h1 : ((p : Int) == (p' : Int)) with
  | false =>
    have e : like ⟨p, k, m⟩ ⟨p', k', m'⟩ = false := by rw [F.out] at h1; simp only [like, h1, Bool.false_and]
    rw [e]; clear e
    go_enter Try.func73, Try.ntmps73
    go_wp2_with fail
    go_ret
    exact ⟨rfl, U.out⟩
  | true =>
    cases h2 : ((k : Int) == (k' : Int)) with
    | false =>
      have e : like ⟨p, k, m⟩ ⟨p', k', m'⟩ = false := by rw [F.out] at h1 h2; simp only [like, h1, h2, Bool.false_and, Bool.and_false]
      rw [e]; clear e
      go_enter Try.func73, Try.ntmps73
      go_wp2_with fail
      go_ret
      exact ⟨rfl, U.out⟩
    | true =>
      cases h3 : ((k : Int) == 1) with
      | true =>
        have e : like ⟨p, k, m⟩ ⟨p', k', m'⟩ = true := by rw [F.out] at h1 h2; rw [F1.out] at h3; simp only [like, h1, h2, h3, Bool.true_or, Bool.and_true]
        rw [e]; clear e
        go_enter Try.func73, Try.ntmps73
        go_wp2_with fail
        go_ret
        exact ⟨rfl, U.out⟩
      | false =>
        cases h4 : ((m : Int) == (m' : Int)) with
        | false =>
          have e : like ⟨p, k, m⟩ ⟨p', k', m'⟩ = false := by rw [F.out] at h1 h2 h4; rw [F1.out] at h3; simp only [like, h1, h2, h3, h4, Bool.or_false, Bool.and_false]
          rw [e]; clear e
          go_enter Try.func73, Try.ntmps73
          go_wp2_with fail
          go_ret
          exact ⟨rfl, U.out⟩
        | true =>
          have e : like ⟨p, k, m⟩ ⟨p', k', m'⟩ = true := by rw [F.out] at h1 h2 h4; rw [F1.out] at h3; simp only [like, h1, h2, h3, h4, Bool.or_true, Bool.and_true]
          rw [e]; clear e
          go_enter Try.func73, Try.ntmps73
          go_wp2_with fail
          go_ret
          exact ⟨rfl, U.out⟩

def likeB (l l' : List Ev) : Bool := decide (l.length = l'.length) && (List.range l.length).all (fun i => like (ev l i) (ev l' i))
theorem likeB_iff (l l' : List Ev) : likeB l l' = true ↔ l.length = l'.length ∧ ∀ i, i < l.length → like (ev l i) (ev l' i) = true := by
  unfold likeB
  rw [Bool.and_eq_true, decide_eq_true_eq, List.all_eq_true]
  simp only [List.mem_range]
theorem likeB_self (l : List Ev) : likeB l l = true := (likeB_iff l l).2 ⟨rfl, fun _i _ => like_self _⟩

set_option maxHeartbeats 4000000 in
set_option maxRecDepth 100000 in
theorem eqfE (a b : Option Addr) (n c m d : Nat) (l l' : List Ev) (w : World) (ha : EvRow w a l) (hb : EvRow w b l') (hl : l.length = n) (hl' : l'.length = m) (hn : n ≤ 1000) (hm : m ≤ 1000) :
    Calls Try.prog 72 #[.slice a n c, .slice b m d, .func (.func 73) #[] #[]] w fun e w' => e = .returned (.bool (likeB l l')) ∧ Upd [] w w' := by
  have HA := hid ha
  have HB := hid hb
  have HL := hid hl
  have HL' := hid hl'
  clear ha hb hl hl'
  by_cases hnm : n = m
  · subst hnm
    go_enter Try.func72, Try.ntmps72
    go_wp2_with fail
    go_loopg [17] n (fun d v17 wr => ∃ (i : Nat), v17 = .int .i64 (i : Int) ∧ i ≤ n ∧ Hid (i + d = n) ∧ Hid (∀ k, k < i → like (ev l k) (ev l' k) = true) ∧ Hid (Upd [] w wr))
    case atStart => exact ⟨0, rfl, by omega, by show _ = _; omega, hid (fun k hk => absurd hk (Nat.not_lt_zero k)), Upd.refl _ _⟩
    case round =>
      obtain ⟨i, rfl, hin, Hi, Hk, Hu⟩ := hrel
      by_cases hi : i < n
      · have hi' : (i : Int) < (n : Int) := by omega
        obtain ⟨g, rfl, c0, c1, c2⟩ := HA.out.upd Hu.out i (by rw [HL.out]; exact hi)
        obtain ⟨g', rfl, d0, d1, d2⟩ := HB.out.upd Hu.out i (by rw [HL'.out]; exact hi)
        obtain ⟨⟨pl, kd, ms⟩, hev⟩ : ∃ ev, ev = l.getD i noEv := ⟨_, rfl⟩
        obtain ⟨⟨pl', kd', ms'⟩, hev'⟩ : ∃ ev, ev = l'.getD i noEv := ⟨_, rfl⟩
        rw [← hev] at c0 c1 c2
        rw [← hev'] at d0 d1 d2
        simp only at c0 c1 c2 d0 d1 d2
        have HE : Hid (ev l i = ⟨pl, kd, ms⟩) := hev.symm
        have HE' : Hid (ev l' i = ⟨pl', kd', ms'⟩) := hev'.symm
        have gl := World.block_lt_of_cell? wr _ c0
        have gl' := World.block_lt_of_cell? wr _ d0
        simp only at gl gl'
        clear hev hev'
        obtain ⟨B, hB⟩ : ∃ B, B = like ⟨pl, kd, ms⟩ ⟨pl', kd', ms'⟩ := ⟨_, rfl⟩
        have ak := fun w => alike_any pl kd ms pl' kd' ms' w
        rw [← hB] at ak
        have AK := hid ak
        have HB2 := hid hB
        clear hB ak
        cases B with
        | true =>
          go_wp2_with fail
          refine (AK.out _).mono ?_
          rintro e w6 ⟨rfl, hu⟩
          have V := hid (((Hu.out.alloc _).alloc _).trans hu (by simp))
          clear hu
          go_wp2_with fail
          go_roundg (n - (i + 1))
          case measure => have := Hi.out; omega
          case rel =>
            refine ⟨i + 1, by go_num, by omega, by show _ = _; omega, hid (fun k hk => ?_), V.out⟩
            by_cases e : k = i
            · subst e; rw [HE.out, HE'.out]; exact HB2.out.symm
            · exact Hk.out k (by omega)
        | false =>
          go_wp2_with fail
          refine (AK.out _).mono ?_
          rintro e w6 ⟨rfl, hu⟩
          have V := hid (((Hu.out.alloc _).alloc _).trans hu (by simp))
          clear hu
          go_wp2_with fail
          go_ret
          refine ⟨ret_bool ?_, V.out⟩
          have : likeB l l' = false := by
            rw [Bool.eq_false_iff]; intro h
            have := ((likeB_iff l l').1 h).2 i (by rw [HL.out]; exact hi)
            rw [HE.out, HE'.out, ← HB2.out] at this; cases this
          rw [this]
      · obtain rfl : i = n := by omega
        have e : likeB l l' = true := (likeB_iff l l').2 ⟨by rw [HL.out, HL'.out], fun k hk => Hk.out k (by rw [← HL.out]; exact hk)⟩
        have E := hid e
        clear e
        go_wp2_with fail
        go_ret
        exact ⟨ret_bool (by rw [E.out]), Hu.out⟩
  · have e : likeB l l' = false := by
      rw [Bool.eq_false_iff]; intro h
      have := ((likeB_iff l l').1 h).1
      rw [HL.out, HL'.out] at this; exact hnm this
    have E := hid e
    have hne : ((n : Int) != (m : Int)) = true := by rw [bne_iff_ne]; omega
    clear e hnm
    go_enter Try.func72, Try.ntmps72
    go_wp2_with fail
    go_ret
    exact ⟨ret_bool (by rw [E.out]), Upd.refl _ _⟩

def sameB (l l' : List Ev) : Bool := (List.range 8).all (fun p => likeB (atL l p) (atL l' p))
theorem sameB_iff (l l' : List Ev) : sameB l l' = true ↔ ∀ p, p < 8 → likeB (atL l p) (atL l' p) = true := by
  unfold sameB; simp only [List.all_eq_true, List.mem_range]

theorem at_row (a : Option Addr) (cap : Nat) (l : List Ev) (n p : Nat) (w : World) (hx : EvRow w a l) (hnl : n = l.length) (hlc : n ≤ cap) (hc : cap ≤ 9223372036854775807) (hn : n ≤ 200) (hv : Valid l) (hp : p < 8) :
    Calls Try.prog 50 #[.slice a n cap, .int .i64 (p : Int)] w fun e w' => ∃ b m c, e = .returned (.tuple #[.slice b m c, .int .i64 0]) ∧ Hid (EvRow w' b (atL l p)) ∧ Hid ((atL l p).length = m) ∧ m ≤ 200 ∧ Upd [] w w' := by
  refine (at_any a cap l n p w hx hnl hlc hc hn hv hp).mono ?_
  rintro e w' ⟨v, rfl, ho, hu⟩
  obtain ⟨b, c, rfl, _, _, hr⟩ := evRow_of ho
  have := sub_le l (atS l p) l.length
  exact ⟨b, _, c, rfl, hr, rfl, by unfold atL; omega, hu⟩

set_option maxHeartbeats 8000000 in
set_option maxRecDepth 100000 in
theorem same_any (a : Option Addr) (cap : Nat) (l : List Ev) (n : Nat) (b : Option Addr) (capb : Nat) (l' : List Ev) (n' : Nat) (w : World) (hx : EvRow w a l) (hnl : n = l.length) (hlc : n ≤ cap) (hc : cap ≤ 9223372036854775807) (hn : n ≤ 200) (hv : Valid l)
    (hx' : EvRow w b l') (hnl' : n' = l'.length) (hlc' : n' ≤ capb) (hc' : capb ≤ 9223372036854775807) (hn' : n' ≤ 200) (hv' : Valid l') :
    Calls Try.prog 53 #[.slice a n cap, .slice b n' capb] w fun e w' => e = .returned (.tuple #[.bool (sameB l l'), .int .i64 0]) ∧ Upd [] w w' := by
  have chk := check_any a cap l w hx (by omega) hc (by omega)
  have chk' := fun (w1 : World) (u : Upd [] w w1) => check_any b capb l' w1 (hx'.upd u) (by omega) hc' (by omega)
  rw [← hnl] at chk
  rw [← hnl'] at chk'
  have A1 := fun (w1 : World) (u : Upd [] w w1) (p : Nat) (hp : p < 8) => at_row a cap l n p w1 (hx.upd u) hnl hlc hc hn hv hp
  have A2 := fun (w1 : World) (u : Upd [] w w1) (p : Nat) (hp : p < 8) => at_row b capb l' n' p w1 (hx'.upd u) hnl' hlc' hc' hn' hv' hp
  have C2 := hid chk'
  have HA1 := hid A1
  have HA2 := hid A2
  have HV := hid hv
  have HV' := hid hv'
  clear hx hnl hlc hc hn hv hx' hnl' hlc' hc' hn' hv' chk' A1 A2
  go_enter Try.func53, Try.ntmps53
  go_wp2_with fail
  refine chk.mono ?_
  rintro e w1 ⟨c, rfl, hc0, hu⟩
  have hc00 : c = 0 := hc0.2 HV.out
  subst hc00
  have U := hid hu
  clear hu hc0 chk
  go_wp2_with fail
  refine (C2.out w1 U.out).mono ?_
  rintro e w2 ⟨c, rfl, hc0, hu⟩
  have hc00 : c = 0 := hc0.2 HV'.out
  subst hc00
  replace U := hid (U.out.trans hu (by simp))
  clear hu hc0 C2
  go_wp2_with fail
  go_loopg [23] 8 (fun d v23 wr => ∃ (p : Nat), v23 = .int .i64 (p : Int) ∧ p ≤ 8 ∧ Hid (p + d = 8) ∧ Hid (∀ q, q < p → likeB (atL l q) (atL l' q) = true) ∧ Hid (Upd [] w wr))
  case atStart => exact ⟨0, rfl, by omega, by show _ = _; omega, hid (fun k hk => absurd hk (Nat.not_lt_zero k)), U.out⟩
  case round =>
    clear U
    obtain ⟨p, rfl, hp8, Hp, Hk, Hu⟩ := hrel
    by_cases hp : p < 8
    · have hp' : (p : Int) < 8 := by omega
      go_wp2_with fail
      refine (HA1.out wr Hu.out p hp).mono ?_
      rintro e w4 ⟨b1, m1, k1, rfl, X1, L1, h1, hu⟩
      have V := hid (Hu.out.trans hu (by simp))
      clear hu
      go_wp2_with fail
      refine (HA2.out w4 V.out p hp).mono ?_
      rintro e w5 ⟨b2, m2, k2, rfl, X2, L2, h2, hu⟩
      replace V := hid (V.out.trans hu (by simp))
      replace X1 := hid (X1.out.upd hu)
      clear hu
      obtain ⟨B, hB⟩ : ∃ B, B = likeB (atL l p) (atL l' p) := ⟨_, rfl⟩
      have ef := eqfE b1 b2 m1 k1 m2 k2 (atL l p) (atL l' p) w5 X1.out X2.out L1.out L2.out (by omega) (by omega)
      rw [← hB] at ef
      have HB := hid hB
      clear hB
      cases B with
      | true =>
        go_wp2_with fail
        refine ef.mono ?_
        rintro e w6 ⟨rfl, hu⟩
        replace V := hid (V.out.trans hu (by simp))
        clear hu ef
        go_wp2_with fail
        go_roundg (8 - (p + 1))
        case measure => have := Hp.out; omega
        case rel =>
          refine ⟨p + 1, by go_num, by omega, by show _ = _; omega, hid (fun q hq => ?_), V.out⟩
          by_cases e : q = p
          · subst e; exact HB.out.symm
          · exact Hk.out q (by omega)
      | false =>
        go_wp2_with fail
        refine ef.mono ?_
        rintro e w6 ⟨rfl, hu⟩
        replace V := hid (V.out.trans hu (by simp))
        clear hu ef
        have e : sameB l l' = false := by
          rw [Bool.eq_false_iff]; intro h
          have := (sameB_iff l l').1 h p hp
          rw [← HB.out] at this; cases this
        have E := hid e
        clear e
        go_wp2_with fail
        go_ret2
        exact ⟨by rw [E.out]; rfl, V.out⟩
    · obtain rfl : p = 8 := by omega
      have e : sameB l l' = true := (sameB_iff l l').2 Hk.out
      have E := hid e
      clear e
      go_wp2_with fail
      go_ret2
      exact ⟨by rw [E.out]; rfl, Hu.out⟩
end Go.Proofs.Ytcdladnbcamgjaa.At
