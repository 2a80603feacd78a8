/- The walk of the statement TracePlaces. -/
import Derived.Test.YtcdladnbcamgjaaAt
import Derived.Test.YtcdladnbcamgjaaEc
import Derived.Test.YtcdladnbcamgjaaBe
namespace Go.Proofs.Ytcdladnbcamgjaa.TPl
open Go Go.RowKit Go.Proofs.Ytcdladnbcamgjaa.K Go.Proofs.Ytcdladnbcamgjaa.M Go.Proofs.Ytcdladnbcamgjaa.Ev Go.Proofs.Ytcdladnbcamgjaa.Ck Go.Proofs.Ytcdladnbcamgjaa.O Go.Proofs.Ytcdladnbcamgjaa.R Go.Proofs.Ytcdladnbcamgjaa.Th Go.Proofs.Ytcdladnbcamgjaa.Hi Go.Proofs.Ytcdladnbcamgjaa.Ha Go.Proofs.Ytcdladnbcamgjaa.LdT Go.Proofs.Ytcdladnbcamgjaa.Ld Go.Proofs.Ytcdladnbcamgjaa.At Go.Proofs.Ytcdladnbcamgjaa.Ec Go.Proofs.Ytcdladnbcamgjaa.Be

/-! Plain -/
theorem sub_count {l : List Ev} (hv : Valid l) : ∀ j, j ≤ l.length → (sub l (atS l 0) j).length + (sub l (atS l 1) j).length + (sub l (atS l 2) j).length + (sub l (atS l 3) j).length + (sub l (atS l 4) j).length + (sub l (atS l 5) j).length + (sub l (atS l 6) j).length + (sub l (atS l 7) j).length = j
  | 0, _ => rfl
  | j + 1, h => by
    have ih := sub_count hv j (by omega)
    have h8 : (ev l j).place < 8 := (hv j (by omega)).p8
    have e : ∀ p, (sub l (atS l p) (j + 1)).length = (sub l (atS l p) j).length + if (ev l j).place = p then 1 else 0 := fun p => by
      by_cases q : (ev l j).place = p
      · rw [sub_yes (show decide _ = true from decide_eq_true q), List.length_append, if_pos q]; rfl
      · rw [sub_no (show decide _ = false from decide_eq_false q), if_neg q]; rfl
    rw [e, e, e, e, e, e, e, e]
    clear e
    generalize (ev l j).place = q at h8 ⊢
    rcases (show q = 0 ∨ q = 1 ∨ q = 2 ∨ q = 3 ∨ q = 4 ∨ q = 5 ∨ q = 6 ∨ q = 7 by omega) with h | h | h | h | h | h | h | h <;>
      simp [h] <;> omega
def sumAt (l : List Ev) : Nat → Nat
  | 0 => 0
  | p + 1 => sumAt l p + (atL l p).length
theorem sumAt_all {l : List Ev} (hv : Valid l) : sumAt l 8 = l.length := by
  have := sub_count hv l.length (Nat.le_refl _)
  simp only [sumAt, atL]; omega
theorem sumAt_le {l : List Ev} : ∀ p, sumAt l p ≤ p * l.length
  | 0 => by simp [sumAt]
  | p + 1 => by
    have ih := sumAt_le (l := l) p
    have h := sub_le l (atS l p) l.length
    simp only [sumAt, atL]
    rw [Nat.add_mul]; omega
theorem sub_append (l : List Ev) (e : Ev) (p : Nat) : ∀ j, j ≤ l.length → sub (l ++ [e]) (atS (l ++ [e]) p) j = sub l (atS l p) j
  | 0, _ => rfl
  | j + 1, h => by
    have ih := sub_append l e p j (by omega)
    have he : ev (l ++ [e]) j = ev l j := by simp [ev, List.getD_eq_getElem?_getD, List.getElem?_append_left (show j < l.length by omega)]
    have hs : atS (l ++ [e]) p j = atS l p j := by unfold atS; rw [he]
    cases hx : atS l p j with
    | true => rw [sub_yes hx, sub_yes (by rw [hs]; exact hx), ih, he]
    | false => rw [sub_no hx, sub_no (by rw [hs]; exact hx), ih]
theorem more_not_same (l : List Ev) (e : Ev) (h8 : e.place < 8) : sameB l (l ++ [e]) = false := by
  rw [Bool.eq_false_iff]; intro h
  have := (likeB_iff _ _).1 ((sameB_iff _ _).1 h e.place h8)
  have hl := this.1
  unfold atL at hl
  rw [List.length_append, List.length_singleton] at hl
  have he : ev (l ++ [e]) l.length = e := by simp [ev, List.getD_eq_getElem?_getD]
  rw [sub_yes (l := l ++ [e]) (j := l.length) (by simp only [atS, he, decide_true]), sub_append l e _ l.length (Nat.le_refl _), List.length_append] at hl
  simp at hl
theorem more_valid {l : List Ev} (hv : Valid l) (p : Nat) (hp : p < 8) : Valid (l ++ [⟨p, 1, 0⟩]) :=
  valid_snoc hv ⟨by simp, by simp, hp, fun h => absurd rfl h, fun h => by simp at h, fun h => by simp at h, fun h => by simp at h⟩
theorem at_place {l : List Ev} {p : Nat} : ∀ i, i < (atL l p).length → (ev (atL l p) i).place = p := fun i hi => by
  obtain ⟨k, h1, h2, h3⟩ := sub_pos l (atS l p) l.length i hi
  have := (sub_ev (l := l) h1 h2).1
  rw [h3] at this
  unfold atL
  rw [this]
  simpa [atS] using h2

/-! Walks -/
set_option maxHeartbeats 2000000 in
theorem clos52 (P : Nat) (pl kd ms p : Int) (w : World) (hc : w.cell? ⟨P, 0, none⟩ = some (.int .i64 p)) :
    Calls Try.prog 52 #[.agg #[.int .i64 pl, .int .i64 kd, .int .i64 ms], .pointer (some ⟨P, 0, none⟩)] w fun e w' => e = .returned (.bool (pl != p)) ∧ Upd [] w w' := by
  have hP := World.block_lt_of_cell? w _ hc
  simp only at hP
  have U : Hid (Upd [] w (w.alloc (.cells #[.int .i64 pl, .int .i64 kd, .int .i64 ms] 31))) := (Upd.refl [] w).alloc _
  go_enter Try.func52, Try.ntmps52
  go_wp2_with fail
  go_ret
  exact ⟨rfl, U.out⟩

set_option maxHeartbeats 4000000 in
set_option maxRecDepth 100000 in
theorem index52 (P : Nat) (p : Nat) (a : Option Addr) (n c : Nat) (l : List Ev) (w : World) (hp : w.cell? ⟨P, 0, none⟩ = some (.int .i64 (p : Int))) (ha : EvRow w a l) (hl : l.length = n) (hn : n ≤ 1000) (hall : ∀ i, i < l.length → (ev l i).place = p) :
    Calls Try.prog 71 #[.slice a n c, .func (.func 52) #[] #[.pointer (some ⟨P, 0, none⟩)]] w fun e w' => e = .returned (.int .i64 (-1)) ∧ Upd [] w w' := by
  have HA := hid ha
  have HL := hid hl
  have HP := hid hp
  have HALL := hid hall
  clear ha hl hp hall
  go_enter Try.func71, Try.ntmps71
  go_wp2_with fail
  go_loopg [8] n (fun d v8 wr => ∃ (i : Nat), v8 = .int .i64 (i : Int) ∧ i ≤ n ∧ Hid (i + d = n) ∧ Hid (Upd [] w wr))
  case atStart => exact ⟨0, rfl, by omega, by show _ = _; omega, Upd.refl _ _⟩
  case round =>
    obtain ⟨i, rfl, hin, Hi, Hu⟩ := hrel
    by_cases hi : i < n
    · have hi' : (i : Int) < (n : Int) := by omega
      obtain ⟨g, rfl, c0, c1, c2⟩ := HA.out.upd Hu.out i (by rw [HL.out]; exact hi)
      have hpl := HALL.out i (by rw [HL.out]; exact hi)
      obtain ⟨⟨pl, kd, ms⟩, hev⟩ : ∃ ev, ev = l.getD i noEv := ⟨_, rfl⟩
      have hpl2 : pl = p := by
        have : (l.getD i noEv).place = p := hpl
        rw [← hev] at this; exact this
      subst hpl2
      rw [← hev] at c0 c1 c2
      simp only at c0 c1 c2
      have cl := clos52 P (pl : Int) (kd : Int) (ms : Int) (pl : Int) wr (Hu.out.cell HP.out (by simp))
      rw [show ((pl : Int) != (pl : Int)) = false by simp] at cl
      clear hev hpl
      go_wp2_with fail
      refine cl.mono ?_
      rintro e w6 ⟨rfl, hu⟩
      have V := hid (Hu.out.trans hu (by simp))
      clear hu cl
      go_wp2_with fail
      go_roundg (n - (i + 1))
      case measure => have := Hi.out; omega
      case rel => exact ⟨i + 1, by go_num, by omega, by show _ = _; omega, V.out⟩
    · obtain rfl : i = n := by omega
      go_wp2_with fail
      go_ret
      exact ⟨rfl, Hu.out⟩

set_option maxHeartbeats 2000000 in
theorem contains52 (P : Nat) (p : Nat) (a : Option Addr) (n c : Nat) (l : List Ev) (w : World) (hp : w.cell? ⟨P, 0, none⟩ = some (.int .i64 (p : Int))) (ha : EvRow w a l) (hl : l.length = n) (hn : n ≤ 1000) (hall : ∀ i, i < l.length → (ev l i).place = p) :
    Calls Try.prog 51 #[.slice a n c, .func (.func 52) #[] #[.pointer (some ⟨P, 0, none⟩)]] w fun e w' => e = .returned (.bool false) ∧ Upd [] w w' := by
  have ix := index52 P p a n c l w hp ha hl hn hall
  clear hp ha hl hall
  go_enter Try.func51, Try.ntmps51
  go_wp2_with fail
  refine ix.mono ?_
  rintro e w6 ⟨rfl, hu⟩
  have V := hid hu
  clear hu ix
  go_wp2_with fail
  go_ret
  exact ⟨rfl, V.out⟩

set_option maxHeartbeats 2000000 in
set_option maxRecDepth 100000 in
theorem hist_zero (a : Option Addr) (cap : Nat) (w : World) (_hc : cap ≤ 9223372036854775807) :
    Calls Try.prog 20 #[.slice a 0 cap] w fun e w' => e = .returned (.slice none 0 0) ∧ Upd [] w w' := by
  have hmin := fun ats ty => min_nat ats ty .i64 .i64 (0 : Int) 60 0 (by omega)
  go_enter Try.func20, Try.ntmps20
  go_wp2_with fail
  go_loopg [3, 15] 0 (fun d v3 v15 wr => v3 = .slice none 0 0 ∧ v15 = .int .i64 0 ∧ Hid (Upd [] w wr))
  case atStart => exact ⟨rfl, rfl, Upd.refl _ _⟩
  case round =>
    obtain ⟨rfl, rfl, Hu⟩ := hrel
    go_wp2_with fail
    go_ret
    exact ⟨rfl, Hu.out⟩
/-- A history; of no event: nil. -/
theorem hist_at0 (a : Option Addr) (len cap : Nat) (xs : List Int) (w : World) (hx : IntRow w a xs) (hl : xs.length = len) (hlc : len ≤ cap) (hc : cap ≤ 9223372036854775807) :
    Calls Try.prog 20 #[.slice a len cap] w fun e w' => ∃ (l : List Ev) (n : Nat) (b : Option Addr) (cap' : Nat), e = .returned (.slice b n cap') ∧ Hid (HistAt w' b cap' l n) ∧ n ≤ 60 ∧ n ≤ cap' ∧ cap' ≤ 9223372036854775807 ∧ Hid (n = 0 → b = none) ∧ Upd [] w w' := by
  by_cases h0 : len = 0
  · subst h0
    refine (hist_zero a cap w hc).mono ?_
    rintro e w' ⟨rfl, hu⟩
    exact ⟨[], 0, none, 0, rfl, ⟨fun i hi => by simp at hi, rfl, Nat.le_refl _, by omega, by omega, valid_nil⟩, by omega, by omega, by omega, fun _ => rfl, hu⟩
  · refine (hist_any a len cap xs w hx hl hlc hc).mono ?_
    rintro e w' ⟨l, a', cap', rfl, h2, h3, h4, h5, _, h7, h8⟩
    exact ⟨l, l.length, a', cap', rfl, ⟨h2, rfl, h3, h4, by omega, h5⟩, by omega, h3, h4, fun h => by omega, h8⟩
theorem clone_ev {w : World} {b : Option Addr} {cap : Nat} {l : List Ev} {n : Nat} (h : HistAt w b cap l n) (hb : n = 0 → b = none) :
    Calls Try.prog 27 #[.slice b n cap] w fun e w' => ∃ v, e = .returned v ∧ Hid (w'.ownsRow w.heap.size 31 3 v n (evCells l)) ∧ Upd [] w w' := by
  by_cases h0 : n = 0
  · subst h0
    obtain rfl := hb rfl
    have hl : l = [] := List.eq_nil_of_length_eq_zero h.len.symm
    subst hl
    refine (Go.Proofs.AnyE.slices_Clone_nil laysEv 0 cap w).mono ?_
    rintro e w' ⟨rfl, rfl⟩
    exact ⟨_, rfl, World.ownsRow_nil _ _ _ _, Upd.refl _ _⟩
  · obtain ⟨g, rfl, -⟩ := h.row 0 (by rw [← h.len]; omega)
    have hl := h.len
    subst hl
    refine (cloneEv g cap l w h.row (by have := h.small; omega) (by omega)).mono ?_
    rintro e w' ⟨g', c', rfl, ho, _, _, _, hu⟩
    exact ⟨_, rfl, ho, hu⟩

set_option maxHeartbeats 8000000 in
set_option maxRecDepth 100000 in
theorem the_walk (a0 : Option Addr) (len0 cap0 : Nat) (z0 : List Int) (i0 : Int) (w : World) (hc0 : len0 ≤ cap0) (hm0 : cap0 ≤ 9223372036854775807) (r0 : IntRow w a0 z0) (e0 : z0.length = len0) :
    Calls Try.prog 15 #[.slice a0 len0 cap0, .int .i64 i0] w fun e w' => e = .returned (.bool true) ∧ Upd [] w w' := by
  obtain ⟨i31, hi31, hz31a, hz31b, hz31c⟩ := info_parts info31
  have HI31 := hid hi31
  have HA31 := hid hz31a
  have HB31 := hid hz31b
  have HC31 := hid hz31c
  have R0 := hid r0
  have E0 := hid e0
  clear r0 e0 hi31 hz31a hz31b hz31c
  have U := hid (Upd.refl [] w)
  go_enter Try.func15, Try.ntmps15
  go_wp2_with fail
  refine (traceBegun_any _).mono ?_
  rintro e w1 ⟨rfl, hu⟩
  replace U := hid (U.out.trans hu (by simp)); replace R0 := hid (R0.out.upd hu)
  clear hu
  go_wp2_with fail
  refine (hist_at0 a0 len0 cap0 z0 _ R0.out E0.out hc0 hm0).mono ?_
  rintro e w2 ⟨l, n, b, c, rfl, H, hn, hlc2, hc2, HNB, hu⟩
  replace U := hid (U.out.trans hu (by simp))
  clear hu R0 E0 hc0 hm0
  have HV := hid H.out.valid
  go_wp2_with fail
  go_loopg [6, 19] 8 (fun d v6 v19 wr => ∃ (p x : Nat), v6 = .int .i64 (x : Int) ∧ v19 = .int .i64 (p : Int) ∧ p ≤ 8 ∧ x ≤ 480 ∧ Hid (p + d = 8) ∧ Hid (x = sumAt l p) ∧ Hid (Upd [] w2 wr))
  case atStart => exact ⟨0, 0, rfl, rfl, by omega, by omega, by show _ = _; omega, rfl, Upd.refl _ _⟩
  case round =>
    obtain ⟨p, x, rfl, rfl, hp8, hx, Hp, Hx, V⟩ := hrel
    by_cases hp : p < 8
    · have hp' : (p : Int) < 8 := by omega
      have HH := hid (H.out.upd V.out)
      have ar := at_row b c l n p (wr.alloc (.cells #[.int .i64 (p : Int)] 3)) (HH.out.row.upd ((Upd.refl [] wr).alloc _)) HH.out.len hlc2 hc2 (by omega) HV.out hp
      obtain ⟨P, hP⟩ : ∃ P, P = wr.heap.size := ⟨_, rfl⟩
      have cp : Hid ((wr.alloc (.cells #[.int .i64 (p : Int)] 3)).cell? ⟨P, 0, none⟩ = some (.int .i64 (p : Int))) := by
        rw [hP]; exact (blk_cell (blk_new wr _) 0).trans rfl
      have HP := hid hP
      go_wp2_with fail
      refine ar.mono ?_
      rintro e w4 ⟨b4, m4, k4, rfl, X4, L4, h4, hu⟩
      have c4 := hid (hu.cell cp.out (by simp))
      replace V := hid ((V.out.alloc (.cells #[.int .i64 (p : Int)] 3)).trans hu (by simp))
      clear hu ar cp
      go_wp2_with fail
      rw [← hP]
      clear hP
      refine (contains52 P p b4 m4 k4 (atL l p) w4 c4.out X4.out L4.out (by omega) at_place).mono ?_
      rintro e w5 ⟨rfl, hu⟩
      replace V := hid (V.out.trans hu (by simp))
      clear hu
      have hsum : x + m4 ≤ 480 := by
        have a1 := sumAt_le (l := l) (p + 1)
        have a2 := H.out.len
        have a3 := L4.out
        have a4 := Hx.out
        simp only [sumAt] at a1
        have a5 := Nat.mul_le_mul (show p + 1 ≤ 8 by omega) (show l.length ≤ 60 by omega)
        omega
      go_wp2_with fail
      go_roundg (8 - (p + 1))
      case measure => have := Hp.out; omega
      case rel => exact ⟨p + 1, x + m4, by go_num, by go_num, by omega, hsum, by show _ = _; omega, by show _ = _; rw [Hx.out, ← L4.out]; rfl, V.out⟩
    · obtain rfl : p = 8 := by omega
      replace H := hid (H.out.upd V.out); replace U := hid (U.out.trans V.out (by simp))
      have hxn : x = n := by rw [Hx.out, sumAt_all HV.out, H.out.len]
      subst hxn
      clear V
      go_wp2_with fail
      refine (clone_ev H.out HNB.out).mono ?_
      rintro e w5 ⟨v5, rfl, HO, hu⟩
      have UB := hid hu
      obtain ⟨B, hB⟩ : ∃ B, B = wr.heap.size := ⟨_, rfl⟩
      have HBW := hid hB
      rw [← hB] at HO
      have BW := hid (show B ≤ w5.heap.size by rw [hB]; exact hu.size)
      clear hu hB
      go_wp2_with fail
      refine (rest_some _ _ _ (by omega) (by omega)).mono ?_
      rintro e w' ⟨r, hr, -, rfl, rfl⟩
      have hr8 : r < 8 := by omega
      go_wp2_with (first | (at_builtin; refine wpList_app (W := w5) rfl (.tmp 41) (.tmp 45) 24 rfl B 31 i31 _ 3 24 Try.underlying24 HI31.out HA31.out HB31.out HC31.out rfl (by decide) v5 x (evCells l) rfl HO.out [.int .i64 (r : Int), .int .i64 1, .int .i64 0] 31 (by first | rfl | (rw [World.size_alloc]; rfl)) rfl (evVals_one ⟨r, 1, 0⟩) (by omega) (by omega) (by have := BW.out; omega) ?_; intro v6 w6 hw6 hu6 hl6; have HW6 := hid hw6; have HU6 := hid hu6; clear hw6 hu6 hl6))
      have V6 : Hid (Upd [] wr w6) := UB.out.trans HU6.out (fun t ht => .inr (by rw [← HBW.out]; exact own_ge HO.out t (by simpa using ht)))
      have hlen : (l ++ [(⟨r, 1, 0⟩ : Ev)]).length = x + 1 := by rw [List.length_append, ← H.out.len]; rfl
      have hw7 := HW6.out
      rw [show evCells l ++ [.int .i64 (r : Int), .int .i64 1, .int .i64 0] = evCells (l ++ [⟨r, 1, 0⟩]) by rw [evCells_snoc]; rfl, ← hlen] at hw7
      obtain ⟨a7, c7, e7, h71, h72, r7⟩ := evRow_of hw7
      rw [hlen] at e7 h71
      subst e7
      have R7 := hid r7
      have HL7 := hid hlen
      clear hw7 r7 hlen HW6
      replace H := hid (H.out.upd V6.out); replace U := hid (U.out.trans V6.out (by simp))
      have s1 := same_any b c l x a7 c7 (l ++ [⟨r, 1, 0⟩]) (x + 1) w6 H.out.row H.out.len hlc2 hc2 (by omega) HV.out R7.out HL7.out.symm h71 h72 (by omega) (more_valid HV.out r hr8)
      rw [more_not_same l ⟨r, 1, 0⟩ hr8] at s1
      have s2 := fun (w7 : World) (u : Upd [] w6 w7) => same_any b c l x b c l x w7 (H.out.row.upd u) H.out.len hlc2 hc2 (by omega) HV.out (H.out.row.upd u) H.out.len hlc2 hc2 (by omega) HV.out
      rw [show sameB l l = true from (sameB_iff l l).2 (fun p _ => likeB_self _)] at s2
      have S2 := hid s2
      clear s2
      go_wp2_with fail
      refine s1.mono ?_
      rintro e w7 ⟨rfl, hu⟩
      have V7 := hid hu
      clear hu s1
      go_wp2_with fail
      refine (S2.out w7 V7.out).mono ?_
      rintro e w8 ⟨rfl, hu⟩
      replace U := hid (U.out.trans (V7.out.trans hu (by simp)) (by simp))
      clear hu S2
      go_wp2_with fail
      go_ret
      exact ⟨rfl, U.out⟩
end Go.Proofs.Ytcdladnbcamgjaa.TPl
