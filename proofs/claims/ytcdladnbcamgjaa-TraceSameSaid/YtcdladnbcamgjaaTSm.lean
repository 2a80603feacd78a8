/- The walk of the statement TraceSame. -/
import Derived.Test.YtcdladnbcamgjaaSmT
import Derived.Test.YtcdladnbcamgjaaTPl
import Derived.Test.YtcdladnbcamgjaaEf
namespace Go.Proofs.Ytcdladnbcamgjaa.TSm
open Go Go.RowKit Go.Proofs.Ytcdladnbcamgjaa.K Go.Proofs.Ytcdladnbcamgjaa.M Go.Proofs.Ytcdladnbcamgjaa.Ev Go.Proofs.Ytcdladnbcamgjaa.Ck Go.Proofs.Ytcdladnbcamgjaa.O Go.Proofs.Ytcdladnbcamgjaa.R Go.Proofs.Ytcdladnbcamgjaa.CW Go.Proofs.Ytcdladnbcamgjaa.Th Go.Proofs.Ytcdladnbcamgjaa.Hi Go.Proofs.Ytcdladnbcamgjaa.Ah Go.Proofs.Ytcdladnbcamgjaa.Cu Go.Proofs.Ytcdladnbcamgjaa.Ha Go.Proofs.Ytcdladnbcamgjaa.At Go.Proofs.Ytcdladnbcamgjaa.SwT Go.Proofs.Ytcdladnbcamgjaa.SmT Go.Proofs.Ytcdladnbcamgjaa.Ec Go.Proofs.Ytcdladnbcamgjaa.Ef Go.Proofs.Ytcdladnbcamgjaa.Be Go.Proofs.Ytcdladnbcamgjaa.TPl

/-- Values that are rows of these clocks. -/
def Vals (w : World) (vs : List Value) (cs : List (List Int)) : Prop := vs.length = cs.length ∧ ∀ q, q < cs.length → ∃ g c, vs[q]? = some (.slice (some ⟨g, 0, none⟩) 8 c) ∧ IntRow w (some ⟨g, 0, none⟩) (cs.getD q []) ∧ (cs.getD q []).length = 8
theorem Vals.nil (w : World) : Vals w [] [] := ⟨rfl, fun q h => absurd h (Nat.not_lt_zero q)⟩
theorem Vals.snoc {w : World} {vs : List Value} {cs : List (List Int)} (h : Vals w vs cs) {g c : Nat} {xs : List Int} (hr : IntRow w (some ⟨g, 0, none⟩) xs) (hl : xs.length = 8) : Vals w (vs ++ [.slice (some ⟨g, 0, none⟩) 8 c]) (cs ++ [xs]) := by
  refine ⟨by simp [h.1], fun q hq => ?_⟩
  by_cases e : q = cs.length
  · subst e
    refine ⟨g, c, by rw [← h.1]; simp, ?_, ?_⟩
    · have : (cs ++ [xs]).getD cs.length [] = xs := by simp [List.getD_eq_getElem?_getD]
      rw [this]; exact hr
    · have : (cs ++ [xs]).getD cs.length [] = xs := by simp [List.getD_eq_getElem?_getD]
      rw [this]; exact hl
  · have hq' : q < cs.length := by simp at hq; omega
    obtain ⟨g', c', h1, h2, h3⟩ := h.2 q hq'
    have e2 : (cs ++ [xs]).getD q [] = cs.getD q [] := by simp [List.getD_eq_getElem?_getD, List.getElem?_append_left hq']
    exact ⟨g', c', by rw [List.getElem?_append_left (by rw [h.1]; exact hq')]; exact h1, by rw [e2]; exact h2, by rw [e2]; exact h3⟩
theorem rowz_of {w w' : World} {B n : Nat} {v : Value} {vs : List Value} {cs : List (List Int)} (ho : w'.ownsRow B 22 1 v n vs) (hv : Vals w vs cs) (hu : Upd [] w w') (hn : n = cs.length) : ∃ a c, v = .slice a n c ∧ Rowz w' a n (fun j => cs.getD j []) := by
  obtain ⟨a, c, rfl, _, _, hc⟩ := own_view ho
  refine ⟨a, c, rfl, fun j hj => ?_⟩
  obtain ⟨g, k, h1, h2, h3⟩ := hv.2 j (by omega)
  obtain ⟨h, rfl, _, hcell, _⟩ := hc j _ h1
  exact ⟨h, g, k, rfl, hcell, h2.upd hu, h3⟩

/-- Two rows of rows that a call itself made. -/
structure Two (w8 : World) (B : Nat) (wr : World) (v v' : Value) (vs vs' : List Value) (cs cs' : List (List Int)) : Prop where
  o1 : wr.ownsRow B 22 1 v vs.length vs
  o2 : wr.ownsRow B 22 1 v' vs'.length vs'
  x1 : Vals w8 vs cs
  x2 : Vals w8 vs' cs'
  nd : ∀ k k', v.ownBlock = some k → v'.ownBlock = some k' → k ≠ k'
  up : Upd [] w8 wr
theorem Two.start {w8 wr : World} {B : Nat} (u : Upd [] w8 wr) : Two w8 B wr (.slice none 0 0) (.slice none 0 0) [] [] [] [] := ⟨World.ownsRow_nil _ _ _ _, World.ownsRow_nil _ _ _ _, Vals.nil _, Vals.nil _, (fun k k' h => by cases h), u⟩
theorem not_mem_own {v v' : Value} (nd : ∀ k k', v.ownBlock = some k → v'.ownBlock = some k' → k ≠ k') : ∀ k, v'.ownBlock = some k → k ∉ v.ownBlock.toList := fun k hk hm => by
  cases e : v.ownBlock with
  | none => rw [e] at hm; simp at hm
  | some k' => rw [e] at hm; simp at hm; exact nd k' k e hk hm.symm
theorem Two.first {w8 wr w6 : World} {B : Nat} {v v' u : Value} {vs vs' : List Value} {cs cs' : List (List Int)} (h : Two w8 B wr v v' vs vs' cs cs') (hB : B = w8.heap.size) {g c : Nat} {xs : List Int}
    (ho : w6.ownsRow B 22 1 u (vs.length + 1) (vs ++ [.slice (some ⟨g, 0, none⟩) 8 c])) (hu : Upd v.ownBlock.toList wr w6) (hl : ∀ k, u.ownBlock = some k → v.ownBlock = some k ∨ wr.heap.size ≤ k)
    (hr : IntRow w8 (some ⟨g, 0, none⟩) xs) (hx : xs.length = 8) : Two w8 B w6 u v' (vs ++ [.slice (some ⟨g, 0, none⟩) 8 c]) vs' (cs ++ [xs]) cs' := by
  refine ⟨by rw [List.length_append]; exact ho, own_upd h.o2 hu (not_mem_own h.nd), h.x1.snoc hr hx, h.x2, fun k k' a b => ?_, h.up.trans hu (fun t ht => .inr (by rw [← hB]; exact own_ge h.o1 t (by simpa using ht)))⟩
  rcases hl k a with q | q
  · exact h.nd k k' q b
  · have := own_lt h.o2 k' b; omega
theorem Two.second {w8 wr w6 : World} {B : Nat} {v v' u : Value} {vs vs' : List Value} {cs cs' : List (List Int)} (h : Two w8 B wr v v' vs vs' cs cs') (hB : B = w8.heap.size) {g c : Nat} {xs : List Int}
    (ho : w6.ownsRow B 22 1 u (vs'.length + 1) (vs' ++ [.slice (some ⟨g, 0, none⟩) 8 c])) (hu : Upd v'.ownBlock.toList wr w6) (hl : ∀ k, u.ownBlock = some k → v'.ownBlock = some k ∨ wr.heap.size ≤ k)
    (hr : IntRow w8 (some ⟨g, 0, none⟩) xs) (hx : xs.length = 8) : Two w8 B w6 v u vs (vs' ++ [.slice (some ⟨g, 0, none⟩) 8 c]) cs (cs' ++ [xs]) := by
  refine ⟨own_upd h.o1 hu (not_mem_own (fun k k' a b => (h.nd k' k b a).symm)), by rw [List.length_append]; exact ho, h.x1, h.x2.snoc hr hx, fun k k' a b => ?_, h.up.trans hu (fun t ht => .inr (by rw [← hB]; exact own_ge h.o2 t (by simpa using ht)))⟩
  rcases hl k' b with q | q
  · exact h.nd k k' a q
  · have := own_lt h.o1 k a; omega

/-- Two events of a row that a call itself made, exchanged: what the region leaves. -/
theorem turned {w4 : World} {g4 n c4 : Nat} {l : List Ev} (h : Evs w4 g4 n c4 l) {i : Nat} (hi : i + 1 < n) (pl kd ms pl' kd' ms' : Nat) (he : (⟨pl, kd, ms⟩ : Ev) = l.getD i noEv) (he' : (⟨pl', kd', ms'⟩ : Ev) = l.getD (i + 1) noEv) :
    Evs (((((((w4.setCell ⟨g4, i * 3, none⟩ (.int .i64 (pl' : Int))).setCell ⟨g4, i * 3 + 1, none⟩ (.int .i64 (kd' : Int))).setCell ⟨g4, i * 3 + 2, none⟩ (.int .i64 (ms' : Int))).setCell ⟨g4, (i + 1) * 3, none⟩ (.int .i64 (pl : Int))).setCell ⟨g4, (i + 1) * 3 + 1, none⟩ (.int .i64 (kd : Int))).setCell ⟨g4, (i + 1) * 3 + 2, none⟩ (.int .i64 (ms : Int))).drew) g4 n c4 (swp l i) := by
  have e := (h.set (i := i) (by omega) ⟨pl', kd', ms'⟩).set (i := i + 1) hi ⟨pl, kd, ms⟩
  have es : swp l i = (l.set i ⟨pl', kd', ms'⟩).set (i + 1) ⟨pl, kd, ms⟩ := by
    show (l.set i (l.getD (i + 1) noEv)).set (i + 1) (l.getD i noEv) = _
    rw [← he, ← he']
  simp only at e
  rw [es]; exact e.drew

set_option maxHeartbeats 8000000 in
set_option maxRecDepth 100000 in
theorem the_walk (a0 : Option Addr) (len0 cap0 : Nat) (z0 : List Int) (a1 : Option Addr) (len1 cap1 : Nat) (z1 : List Int) (w : World) (hc0 : len0 ≤ cap0) (hm0 : cap0 ≤ 9223372036854775807) (r0 : IntRow w a0 z0) (e0 : z0.length = len0) (r1 : IntRow w a1 z1) (e1 : z1.length = len1) (hc1 : len1 ≤ cap1) (hm1 : cap1 ≤ 9223372036854775807) :
    Calls Try.prog 18 #[.slice a0 len0 cap0, .slice a1 len1 cap1] w fun e w' => e = .returned (.bool true) ∧ Upd [] w w' := by
  obtain ⟨i22, hi22, hz22a, hz22b, hz22c⟩ := info_parts info22
  have HI22 := hid hi22
  have HA22 := hid hz22a
  have HB22 := hid hz22b
  have HC22 := hid hz22c
  have R0 := hid r0
  have E0 := hid e0
  have R1 := hid r1
  have E1 := hid e1
  obtain ⟨s, hs⟩ : ∃ s : Nat, min (len1 : Int) 80 = (s : Int) := ⟨min len1 80, by omega⟩
  have hmin := fun ats ty => min_nat ats ty .i64 .i64 (len1 : Int) 80 s hs
  have hs1 : s ≤ len1 := by omega
  have hs2 : s ≤ cap1 := by omega
  clear r0 e0 r1 e1 hi22 hz22a hz22b hz22c hs
  have U := hid (Upd.refl [] w)
  go_enter Try.func18, Try.ntmps18
  go_wp2_with fail
  refine (traceBegun_any _).mono ?_
  rintro e w1 ⟨rfl, hu⟩
  replace U := hid (U.out.trans hu (by simp)); replace R0 := hid (R0.out.upd hu); replace R1 := hid (R1.out.upd hu)
  clear hu
  go_wp2_with fail
  refine (begun_any _).mono ?_
  rintro e w2 ⟨rfl, hu⟩
  replace U := hid (U.out.trans hu (by simp)); replace R0 := hid (R0.out.upd hu); replace R1 := hid (R1.out.upd hu)
  clear hu
  go_wp2_with fail
  refine (hist_at0 a0 len0 cap0 z0 _ R0.out E0.out hc0 hm0).mono ?_
  rintro e w3 ⟨l, n, b, c, rfl, H, hn, hlc2, hc2, HNB, hu⟩
  replace U := hid (U.out.trans hu (by simp)); replace R1 := hid (R1.out.upd hu)
  clear hu R0 E0 hc0 hm0
  have HV := hid H.out.valid
  go_wp2_with fail
  refine (clone_ev H.out HNB.out).mono ?_
  rintro e w4 ⟨v4, rfl, HO, hu⟩
  replace U := hid (U.out.trans hu (by simp)); replace R1 := hid (R1.out.upd hu); replace H := hid (H.out.upd hu)
  clear hu
  have ho := HO.out
  rw [H.out.len] at ho
  obtain ⟨ag, cg, e4, hg1, hg2, hgr⟩ := evRow_of ho
  subst e4
  have hln := H.out.len
  have G0 : Hid (HistAt w4 ag cg l n) := ⟨hgr, hln, by omega, hg2, hn, HV.out⟩
  rw [← hln] at hg1
  clear ho hgr HO
  rw [← hln]
  clear hln
  go_wp2_with fail
  go_loopg [6, 37] s (fun d v6 v37 wr => ∃ (j : Nat) (ag : Option Addr) (cg : Nat) (gl : List Ev), v6 = .slice ag n cg ∧ v37 = .int .i64 (j : Int) ∧ j ≤ s ∧ n ≤ cg ∧ cg ≤ 9223372036854775807 ∧ Hid (j + d = s) ∧ Hid (HistAt wr ag cg gl n) ∧ Hid (SmT.Alike l gl) ∧ Hid (Upd [] w4 wr))
  case atStart => exact ⟨0, ag, cg, l, rfl, rfl, by omega, hg1, hg2, by show _ = _; omega, G0.out, SmT.Alike.refl l, Upd.refl _ _⟩
  case round =>
    clear G0 hg1 hg2
    obtain ⟨j, ag, cg, gl, rfl, rfl, hjs, hg1, hg2, Hj, G, AL, V⟩ := hrel
    by_cases hj : j < s ∧ 2 ≤ n
    · obtain ⟨hj, hn2⟩ := hj
      have hjs' : (j : Int) < (s : Int) := by omega
      have hn2' : ¬ (n : Int) < 2 := by omega
      obtain ⟨ad, rfl, q1⟩ := (R1.out.upd V.out) j (by rw [E1.out]; omega)
      go_wp2_with fail
      refine (rest_some _ _ _ (by omega) (by omega)).mono ?_
      rintro e w' ⟨i, hi, -, rfl, rfl⟩
      have hi2 : i + 1 < n := by omega
      have IL := hid (show i + 1 < gl.length by rw [← G.out.len]; exact hi2)
      obtain ⟨g0, rfl, -⟩ := G.out.row 0 (by rw [← G.out.len]; omega)
      have cl := cloneEv g0 cg gl wr G.out.row (by rw [← G.out.len]; omega) (by rw [← G.out.len]; omega)
      rw [← G.out.len] at cl
      clear q1
      go_wp2_with fail
      refine cl.mono ?_
      rintro e w5 ⟨g5, c5, rfl, ho, hc5, hc6, hg5, hu⟩
      have UW := hid hu
      have ES : Hid (Evs w5 g5 n c5 gl) := ⟨G.out.len.symm, _, ho⟩
      have G5 := hid hg5
      have GR := hid (G.out.upd hu)
      clear hu cl ho hg5
      obtain ⟨g', e1, c0, c1, c2⟩ := ES.out.row i (by have := IL.out; omega)
      cases e1
      obtain ⟨g', e1, d0, d1, d2⟩ := ES.out.row (i + 1) IL.out
      cases e1
      obtain ⟨⟨pl, kd, ms⟩, hev⟩ : ∃ ev, ev = gl.getD i noEv := ⟨_, rfl⟩
      obtain ⟨⟨pl', kd', ms'⟩, hev'⟩ : ∃ ev, ev = gl.getD (i + 1) noEv := ⟨_, rfl⟩
      rw [← hev] at c0 c1 c2
      rw [← hev'] at d0 d1 d2
      simp only at c0 c1 c2 d0 d1 d2
      have f0 := ES.out.fro (i * 3)
      have f1 := ES.out.fro (i * 3 + 1)
      have f2 := ES.out.fro (i * 3 + 2)
      have f3 := ES.out.fro ((i + 1) * 3)
      have f4 := ES.out.fro ((i + 1) * 3 + 1)
      have f5 := ES.out.fro ((i + 1) * 3 + 2)
      have hi' : (i : Int) < (n : Int) := by omega
      have hi2' : (i : Int) + 1 < (n : Int) := by omega
      have HE := hid hev
      have HE' := hid hev'
      clear hev hev'
      go_wp2_with fail
      go_region
      obtain ⟨W5, hW5⟩ : ∃ W5, W5 = ((((((w5.setCell ⟨g5, i * 3, none⟩ (.int .i64 (pl' : Int))).setCell ⟨g5, i * 3 + 1, none⟩ (.int .i64 (kd' : Int))).setCell ⟨g5, i * 3 + 2, none⟩ (.int .i64 (ms' : Int))).setCell ⟨g5, (i + 1) * 3, none⟩ (.int .i64 (pl : Int))).setCell ⟨g5, (i + 1) * 3 + 1, none⟩ (.int .i64 (kd : Int))).setCell ⟨g5, (i + 1) * 3 + 2, none⟩ (.int .i64 (ms : Int))).drew := ⟨_, rfl⟩
      have U5 : Hid (Upd [] wr W5) := by
        rw [hW5]
        have X := G5.out
        exact ((((((UW.out.setCell (p := ⟨g5, i * 3, none⟩) (.inr X) _).setCell (p := ⟨g5, i * 3 + 1, none⟩) (.inr X) _).setCell (p := ⟨g5, i * 3 + 2, none⟩) (.inr X) _).setCell (p := ⟨g5, (i + 1) * 3, none⟩) (.inr X) _).setCell (p := ⟨g5, (i + 1) * 3 + 1, none⟩) (.inr X) _).setCell (p := ⟨g5, (i + 1) * 3 + 2, none⟩) (.inr X) _).drew
      have S5 : Hid (Evs W5 g5 n c5 (swp gl i)) := by
        have := turned ES.out hi2 pl kd ms pl' kd' ms' HE.out HE'.out
        rw [hW5]; exact this
      rw [← hW5]
      have V5 := hid (V.out.trans U5.out (by simp))
      clear hW5 ES UW G5 c0 c1 c2 d0 d1 d2 f0 f1 f2 f3 f4 f5 GR V
      replace G := hid (G.out.upd U5.out)
      clear U5
      obtain ⟨g', e1, c0, -, -⟩ := G.out.row i (by have := IL.out; omega)
      cases e1
      obtain ⟨g', e1, d0, -, -⟩ := G.out.row (i + 1) IL.out
      cases e1
      rw [← HE.out] at c0
      rw [← HE'.out] at d0
      simp only at c0 d0
      have hw1 : IntKind.i64.wrap ((i : Int) + 1) = (i : Int) + 1 := IntWalk.i64_in _ (by omega)
      have hw2 : 0 ≤ (i : Int) + 1 := by omega
      have hw3 : ((i : Int) + 1).toNat = i + 1 := by omega
      by_cases hpp : pl = pl'
      · have b : ((pl : Int) != (pl' : Int)) = false := by rw [bne_eq_false_iff_eq]; omega
        clear hpp HE HE'
        go_wp2_with fail
        refine region_tail 13 (by kernel_rfl) (by kernel_rfl) ?_
        simp only [List.take_succ_cons, List.take_zero, List.drop_succ_cons, List.drop_zero]
        repeat still_step
        refine wpStill_nil ?_
        clear hw1 hw2 hw3
        go_wp2_with fail
        go_roundg (s - (j + 1))
        case measure => have := Hj.out; omega
        case rel => exact ⟨j + 1, _, cg, gl, rfl, by go_num, by omega, hg1, hg2, by show _ = _; omega, G.out.upd (Upd.refl [] _).drew, AL.out, V5.out.drew⟩
      · have b : ((pl : Int) != (pl' : Int)) = true := by rw [bne_iff_ne]; omega
        have HPP : Hid ((ev gl i).place ≠ (ev gl (i + 1)).place) := by
          show (gl.getD i noEv).place ≠ (gl.getD (i + 1) noEv).place
          rw [← HE.out, ← HE'.out]; exact hpp
        clear hpp HE HE'
        have ck := check_any (some ⟨g5, 0, none⟩) c5 (swp gl i) W5.drew (S5.out.row.upd (Upd.refl [] _).drew) (by rw [swp_length, ← G.out.len]; exact hc5) hc6 (by rw [swp_length, ← G.out.len]; omega)
        rw [swp_length, ← G.out.len] at ck
        go_wp2_with fail
        refine region_tail 13 (by kernel_rfl) (by kernel_rfl) ?_
        simp only [List.take_succ_cons, List.take_zero, List.drop_succ_cons, List.drop_zero]
        repeat still_step
        refine wpStill_nil ?_
        clear hw1 hw2 hw3
        go_wp2_with fail
        refine ck.mono ?_
        rintro e w6 ⟨k, rfl, HK, hu⟩
        have V6 := hid (V5.out.drew.trans hu (by simp))
        replace G := hid (G.out.upd ((Upd.refl [] _).drew.trans hu (by simp)))
        have X6 := hid (S5.out.row.upd ((Upd.refl [] _).drew.trans hu (by simp)))
        have HK2 := hid HK
        clear hu ck S5 HK c0 d0
        by_cases hk0 : k = 0
        · have VS := hid (HK2.out.1 hk0)
          subst hk0
          clear HK2
          go_wp2_with fail
          go_roundg (s - (j + 1))
          case measure => have := Hj.out; omega
          case rel => exact ⟨j + 1, some ⟨g5, 0, none⟩, c5, swp gl i, rfl, by go_num, by omega, hc5, hc6, by show _ = _; omega, ⟨X6.out, by rw [swp_length]; exact G.out.len, hc5, hc6, hn, VS.out⟩, AL.out.turn G.out.valid IL.out VS.out HPP.out, V6.out⟩
        · have b0 : (k == 0) = false := by rw [beq_eq_false_iff_ne]; exact hk0
          clear hk0 HK2
          go_wp2_with fail
          go_roundg (s - (j + 1))
          case measure => have := Hj.out; omega
          case rel => exact ⟨j + 1, _, cg, gl, rfl, by go_num, by omega, hg1, hg2, by show _ = _; omega, G.out, AL.out, V6.out⟩
    · clear hs2 hmin
      by_cases hjs3 : j < s
      case' pos =>
        obtain ⟨ad, rfl, q1⟩ := (R1.out.upd V.out) j (by rw [E1.out]; omega)
        have hn2 : (n : Int) < 2 := by omega
        have hjs' : (j : Int) < (s : Int) := by omega
      case' neg =>
        have hjs' : ¬ (j : Int) < (s : Int) := by omega
      all_goals
        clear hj
        have sm := same_any b c l n ag cg gl n wr (H.out.row.upd V.out) H.out.len hlc2 hc2 (by omega) HV.out G.out.row G.out.len hg1 hg2 (by omega) G.out.valid
        rw [AL.out.same] at sm
        have HH := hid (H.out.upd V.out)
        have UU := hid (U.out.trans V.out (by simp))
        go_wp2_with fail
        refine sm.mono ?_
        rintro e w6 ⟨rfl, hu⟩
        replace HH := hid (HH.out.upd hu); replace G := hid (G.out.upd hu); replace UU := hid (UU.out.trans hu (by simp))
        clear hu sm
        go_wp2_with fail
        refine (H_clocks HH.out).mono ?_
        rintro e w7 ⟨ba, ca, rfl, RA, hca, hca2, hu⟩
        replace HH := hid (HH.out.upd hu); replace G := hid (G.out.upd hu); replace UU := hid (UU.out.trans hu (by simp))
        clear hu
        go_wp2_with fail
        refine (H_clocks G.out).mono ?_
        rintro e w8 ⟨bb, cb, rfl, RB, hcb, hcb2, hu⟩
        replace HH := hid (HH.out.upd hu); replace G := hid (G.out.upd hu); replace UU := hid (UU.out.trans hu (by simp)); replace RA := hid (RA.out.upd hu)
        clear hu
        obtain ⟨B, hB⟩ : ∃ B, B = w8.heap.size := ⟨_, rfl⟩
        have HBS := hid hB
        clear hB
        go_wp2_with fail
        go_loopg [130] 8 (fun d v130 wr => ∃ (p : Nat), v130 = .int .i64 (p : Int) ∧ p ≤ 8 ∧ Hid (p + d = 8) ∧ Hid (Upd [] w8 wr))
        case atStart => exact ⟨0, rfl, by omega, by show _ = _; omega, Upd.refl _ _⟩
        case round =>
          obtain ⟨p, rfl, hp8, Hp, VP⟩ := hrel
          by_cases hp : p < 8
          · have hp' : (p : Int) < 8 := by omega
            go_wp2_with fail
            go_loopg [18, 19, 135] n (fun d v18 v19 v135 wr => ∃ (i : Nat) (vs1 vs2 : List Value), v135 = .int .i64 (i : Int) ∧ i ≤ n ∧ Hid (i + d = n) ∧ Hid (Two w8 B wr v18 v19 vs1 vs2 (clkP l p i) (clkP gl p i)))
            case atStart => exact ⟨0, [], [], rfl, by omega, by show _ = _; omega, Two.start VP.out⟩
            case round =>
              clear VP
              obtain ⟨i, vs1, vs2, rfl, hin, Hi, T⟩ := hrel
              have hv1 : vs1.length ≤ i := by rw [T.out.x1.1]; exact clkP_le l p i
              have hv2 : vs2.length ≤ i := by rw [T.out.x2.1]; exact clkP_le gl p i
              by_cases hi : i < n
              · have hi' : (i : Int) < (n : Int) := by omega
                have il := hid (show i < l.length by rw [← HH.out.len]; exact hi)
                have ig := hid (show i < gl.length by rw [← G.out.len]; exact hi)
                obtain ⟨g1, e1, c00, -, -⟩ := HH.out.row i il.out
                obtain ⟨g2, e2, d00, -, -⟩ := G.out.row i ig.out
                obtain ⟨h1, f1, k1, e3, q1, r1, s1⟩ := RA.out i il.out
                obtain ⟨h2, f2, k2, e4, q2, r2, s2⟩ := RB.out i ig.out
                subst e1
                subst e2
                subst e3
                subst e4
                obtain ⟨pl, hpl⟩ : ∃ pl, pl = (l.getD i noEv).place := ⟨_, rfl⟩
                obtain ⟨pl', hpl'⟩ : ∃ pl, pl = (gl.getD i noEv).place := ⟨_, rfl⟩
                rw [← hpl] at c00
                rw [← hpl'] at d00
                have c0 := T.out.up.cell c00 (by simp)
                have d0 := T.out.up.cell d00 (by simp)
                have q1' := T.out.up.cell q1 (by simp)
                have q2' := T.out.up.cell q2 (by simp)
                have HPL := hid hpl
                have HPL' := hid hpl'
                have r1' := hid r1
                have r2' := hid r2
                have s1' := hid s1
                have s2' := hid s2
                have q2h := hid q2
                have dd := hid d00
                clear hpl hpl' r1 r2 s1 s2 q1 q2 c00 d00
                by_cases hp1 : pl = p
                · obtain rfl : p = pl := hp1.symm
                  clear hp1
                  by_cases hp2 : pl' = p
                  · obtain rfl : p = pl' := hp2.symm
                    clear hp2
                    go_wp2_with (first | (at_builtin; refine wpList_app (W := wr) rfl (.tmp 145) (.tmp 150) 37 rfl B 22 i22 _ 1 24 Try.underlying37 HI22.out HA22.out HB22.out HC22.out rfl (by decide) u18 vs1.length vs1 rfl T.out.o1 [.slice (some ⟨f1, 0, none⟩) 8 k1] 22 rfl rfl (by intro u hu; simp at hu; subst hu; rfl) (by omega) (by omega) (by have := T.out.up.size; have := HBS.out; omega) ?_; intro v18' w9 hw hu hl9; have T9 := hid (T.out.first HBS.out hw hu hl9 r1'.out s1'.out); clear hw hu hl9; have d9 := T9.out.up.cell dd.out (by simp); have q9 := T9.out.up.cell q2h.out (by simp)) | (at_builtin; refine wpList_app (W := w9) rfl (.tmp 159) (.tmp 164) 37 rfl B 22 i22 _ 1 24 Try.underlying37 HI22.out HA22.out HB22.out HC22.out rfl (by decide) u19 vs2.length vs2 rfl T9.out.o2 [.slice (some ⟨f2, 0, none⟩) 8 k2] 22 rfl rfl (by intro u hu; simp at hu; subst hu; rfl) (by omega) (by omega) (by have := T9.out.up.size; have := HBS.out; omega) ?_; intro v19' w10 hw hu hl9; have T10 := hid (T9.out.second HBS.out hw hu hl9 r2'.out s2'.out); clear hw hu hl9))
                    go_roundg (n - (i + 1))
                    case measure => have := Hi.out; omega
                    case rel =>
                      have ea := SmT.clkP_yes HPL.out.symm
                      have eb := SmT.clkP_yes HPL'.out.symm
                      exact ⟨i + 1, _, _, by go_num, by omega, by show _ = _; omega, by rw [ea, eb]; exact T10.out⟩
                  · have NP' := hid hp2
                    have b2 : ((pl' : Int) == (p : Int)) = false := by rw [beq_eq_false_iff_ne]; omega
                    clear hp2
                    go_wp2_with (first | (at_builtin; refine wpList_app (W := wr) rfl (.tmp 145) (.tmp 150) 37 rfl B 22 i22 _ 1 24 Try.underlying37 HI22.out HA22.out HB22.out HC22.out rfl (by decide) u18 vs1.length vs1 rfl T.out.o1 [.slice (some ⟨f1, 0, none⟩) 8 k1] 22 rfl rfl (by intro u hu; simp at hu; subst hu; rfl) (by omega) (by omega) (by have := T.out.up.size; have := HBS.out; omega) ?_; intro v18' w9 hw hu hl9; have T9 := hid (T.out.first HBS.out hw hu hl9 r1'.out s1'.out); clear hw hu hl9; have d9 := T9.out.up.cell dd.out (by simp); have q9 := T9.out.up.cell q2h.out (by simp)))
                    go_roundg (n - (i + 1))
                    case measure => have := Hi.out; omega
                    case rel =>
                      have ea := SmT.clkP_yes HPL.out.symm
                      have eb := SmT.clkP_no (fun q => NP'.out (HPL'.out.trans q))
                      exact ⟨i + 1, _, _, by go_num, by omega, by show _ = _; omega, by rw [ea, eb]; exact T9.out⟩
                · have NP := hid hp1
                  have b1 : ((pl : Int) == (p : Int)) = false := by rw [beq_eq_false_iff_ne]; omega
                  clear hp1
                  by_cases hp2 : pl' = p
                  · obtain rfl : p = pl' := hp2.symm
                    clear hp2
                    go_wp2_with (first | (at_builtin; refine wpList_app (W := wr) rfl (.tmp 159) (.tmp 164) 37 rfl B 22 i22 _ 1 24 Try.underlying37 HI22.out HA22.out HB22.out HC22.out rfl (by decide) u19 vs2.length vs2 rfl T.out.o2 [.slice (some ⟨f2, 0, none⟩) 8 k2] 22 rfl rfl (by intro u hu; simp at hu; subst hu; rfl) (by omega) (by omega) (by have := T.out.up.size; have := HBS.out; omega) ?_; intro v19' w10 hw hu hl9; have T10 := hid (T.out.second HBS.out hw hu hl9 r2'.out s2'.out); clear hw hu hl9))
                    go_roundg (n - (i + 1))
                    case measure => have := Hi.out; omega
                    case rel =>
                      have ea := SmT.clkP_no (fun q => NP.out (HPL.out.trans q))
                      have eb := SmT.clkP_yes HPL'.out.symm
                      exact ⟨i + 1, _, _, by go_num, by omega, by show _ = _; omega, by rw [ea, eb]; exact T10.out⟩
                  · have NP' := hid hp2
                    have b2 : ((pl' : Int) == (p : Int)) = false := by rw [beq_eq_false_iff_ne]; omega
                    clear hp2
                    go_wp2_with fail
                    go_roundg (n - (i + 1))
                    case measure => have := Hi.out; omega
                    case rel =>
                      have ea := SmT.clkP_no (fun q => NP.out (HPL.out.trans q))
                      have eb := SmT.clkP_no (fun q => NP'.out (HPL'.out.trans q))
                      exact ⟨i + 1, _, _, by go_num, by omega, by show _ = _; omega, by rw [ea, eb]; exact T.out⟩
              · obtain rfl : i = n := by omega
                obtain ⟨a1', c1', rfl, Z1⟩ := rowz_of T.out.o1 T.out.x1 T.out.up T.out.x1.1
                obtain ⟨a2', c2', rfl, Z2⟩ := rowz_of T.out.o2 T.out.x2 T.out.up T.out.x2.1
                have ec : SmT.clkP gl p i = SmT.clkP l p i := by have := AL.out.clk p; rw [← G.out.len, ← HH.out.len] at this; exact this
                have el : vs2.length = vs1.length := by rw [T.out.x1.1, T.out.x2.1, ec]
                rw [ec] at Z2
                have ex := eqf57 a1' a2' vs1.length c1' c2' _ wr Z1 (by rw [← el]; exact Z2) (by omega)
                rw [el]
                clear Z1 Z2 ec el
                go_wp2_with fail
                refine ex.mono ?_
                rintro e w9 ⟨rfl, hu⟩
                have V9 := hid (T.out.up.trans hu (by simp))
                clear hu ex
                go_wp2_with fail
                go_roundg (8 - (p + 1))
                case measure => have := Hp.out; omega
                case rel => exact ⟨p + 1, by go_num, by omega, by show _ = _; omega, V9.out⟩
          · have hp' : ¬ (p : Int) < 8 := by omega
            go_wp2_with fail
            go_ret
            exact ⟨rfl, UU.out.trans VP.out (by simp)⟩
end Go.Proofs.Ytcdladnbcamgjaa.TSm
