/- The walk of the statement CutClocks. -/
import Derived.Test.YtcdladnbcamgjaaHa
namespace Go.Proofs.Ytcdladnbcamgjaa.CCk
open Go Go.RowKit Go.Proofs.Ytcdladnbcamgjaa.K Go.Proofs.Ytcdladnbcamgjaa.Ev Go.Proofs.Ytcdladnbcamgjaa.R Go.Proofs.Ytcdladnbcamgjaa.CL Go.Proofs.Ytcdladnbcamgjaa.CW Go.Proofs.Ytcdladnbcamgjaa.Th Go.Proofs.Ytcdladnbcamgjaa.Cu Go.Proofs.Ytcdladnbcamgjaa.CuT Go.Proofs.Ytcdladnbcamgjaa.Cv Go.Proofs.Ytcdladnbcamgjaa.Cw Go.Proofs.Ytcdladnbcamgjaa.Ha

theorem arr_drewN {w : World} {C : Nat} {t : TypeId} {n : Nat} {f : Nat → Value} (h : Arr w C t n f) (k : Nat) : Arr (w.drewN k) C t n f := h

set_option maxHeartbeats 8000000 in
set_option maxRecDepth 100000 in
theorem the_walk (a0 : Option Addr) (len0 cap0 : Nat) (z0 : List Int) (i0 : Int) (w : World) (hc0 : len0 ≤ cap0) (hm0 : cap0 ≤ 9223372036854775807) (r0 : IntRow w a0 z0) (e0 : z0.length = len0) :
    Calls Try.prog 9 #[.slice a0 len0 cap0, .int .i64 i0] w fun e w' => e = .returned (.bool true) ∧ Upd [] w w' := by
  have R0 := hid r0; have E0 := hid e0
  clear r0 e0
  have U := hid (Upd.refl [] w)
  go_enter Try.func9, Try.ntmps9
  go_wp2_with fail
  refine (cutBegun_any _).mono ?_
  rintro e w1 ⟨rfl, hu⟩
  replace U := hid (U.out.trans hu (by simp)); replace R0 := hid (R0.out.upd hu)
  clear hu
  go_wp2_with fail
  refine (Ah.begun_any _).mono ?_
  rintro e w2 ⟨rfl, hu⟩
  replace U := hid (U.out.trans hu (by simp)); replace R0 := hid (R0.out.upd hu)
  clear hu
  go_wp2_with fail
  refine (hist_at a0 len0 cap0 z0 _ R0.out E0.out hc0 hm0).mono ?_
  rintro e w3 ⟨l, n, b, c, rfl, H, hn, hlc2, hc2, hu⟩
  replace U := hid (U.out.trans hu (by simp))
  clear hu R0
  clear E0 hc0 hm0
  have HV := hid H.out.valid
  by_cases hn0 : n = 0
  · subst hn0
    go_wp2_with fail
    go_ret
    exact ⟨rfl, U.out⟩
  go_wp2_with fail
  refine (rest_some _ _ _ (by omega) (by omega)).mono ?_
  rintro e w' ⟨i, hi, -, rfl, rfl⟩
  have hin : i < n := by omega
  have IL := hid (show i < l.length by rw [← H.out.len]; exact hin)
  go_wp2_with fail
  refine (H_clocks H.out).mono ?_
  rintro e w4 ⟨b4, c4, rfl, R, hlc4, hc4, hu⟩
  replace U := hid (U.out.trans hu (by simp)); replace H := hid (H.out.upd hu)
  clear hu
  have hmk := make8
  obtain ⟨C, hC⟩ : ∃ C, C = w4.heap.size := ⟨_, rfl⟩
  have A0 : Hid (Arr (w4.alloc (.cells (ints zero8).toArray 3)) C 3 8 (fun p => .int .i64 (((if p = (ev l i).place then cnt l p 0 else 0 : Nat)) : Int))) := by
    rw [hC]; exact arr_new w4 _ 3 8 _ rfl (fun z hz => by rw [ints_zero_get z hz]; split <;> rfl)
  have V0 : Hid (Upd [] w4 (w4.alloc (.cells (ints zero8).toArray 3))) := (Upd.refl _ _).alloc _
  have CW0 := hid (show w4.heap.size ≤ C by rw [hC]; exact Nat.le_refl _)
  obtain ⟨g0, rfl, -⟩ := H.out.row 0 (by rw [← H.out.len]; omega)
  have hile : (i : Int) + 1 ≤ (n : Int) := by omega
  have hilc : (i : Int) + 1 ≤ (c : Int) := by omega
  go_wp2_with fail
  rw [← hC]
  clear hC hmk
  go_loopg [50] (i + 1) (fun d v wr => ∃ (j : Nat), v = .int .i64 (j : Int) ∧ j ≤ i + 1 ∧ Hid (j + d = i + 1) ∧ Hid (Arr wr C 3 8 (fun p => .int .i64 (((if p = (ev l i).place then cnt l p j else 0 : Nat)) : Int))) ∧ Hid (Upd [] w4 wr))
  case atStart => exact ⟨0, rfl, by omega, by show _ = _; omega, A0.out, V0.out⟩
  case round =>
    clear A0 V0
    obtain ⟨j, rfl, hji, Hj, Ha, V⟩ := hrel
    by_cases hj : j < i + 1
    · have hjl := hid (show j < l.length by rw [← H.out.len]; omega)
      obtain ⟨g1, e1, c0, c1, c2⟩ := (H.out.upd V.out).row j hjl.out
      cases e1
      obtain ⟨g1, e1, d0, d1, d2⟩ := (H.out.upd V.out).row i IL.out
      cases e1
      have hp8 := (HV.out j hjl.out).p8
      obtain ⟨⟨pl, kd, ms⟩, hev⟩ : ∃ ev, ev = l.getD j noEv := ⟨_, rfl⟩
      rw [← hev] at c0 c1 c2 hp8
      simp only at c0 c1 c2 hp8
      have HE : Hid (ev l j = ⟨pl, kd, ms⟩) := hev.symm
      clear hev
      obtain ⟨pi, hpi⟩ : ∃ pi, pi = (ev l i).place := ⟨_, rfl⟩
      have d0' : wr.cell? ⟨g0, i * 3, none⟩ = some (.int .i64 (pi : Int)) := by rw [hpi]; exact d0
      clear d0 d1 d2
      have gl : g0 < wr.heap.size := World.block_lt_of_cell? wr _ d0'
      have hij : (j : Int) < (i : Int) + 1 := by omega
      rw [← hpi] at Ha
      have HPI := hid hpi
      clear hpi
      have ep : Hid ((ev l j).place = pl) := by show _ = _; rw [HE.out]
      by_cases hpp : pl = pi
      · subst hpp
        obtain ⟨x, hx⟩ : ∃ x, x = cnt l pl j := ⟨_, rfl⟩
        have hxl : x ≤ 200 := by have := cnt_le l pl j; omega
        have q : ∀ o, (wr.alloc o).cell? ⟨C, pl, none⟩ = some (.int .i64 (x : Int)) := fun o => (Ha.out.alloc o).val hp8 (by rw [if_pos rfl, hx])
        have qf : ∀ o, (wr.alloc o).frozen? ⟨C, pl, none⟩ = false := fun o => (Ha.out.alloc o).fro pl
        have Cl := Ha.out.lt
        have HXX := hid hx
        clear hx
        go_wp2_with fail
        go_quiet (fail)
        go_wp2_with fail
        go_roundg (i + 1 - (j + 1))
        case measure => have := Hj.out; omega
        case rel =>
          refine ⟨j + 1, by go_num, by omega, by show _ = _; omega, ?_, ((V.out.alloc _).drewN _).setCell (.inr CW0.out) _⟩
          refine ((arr_drewN (Ha.out.alloc _) _).set pl _).congr (fun z hz => ?_)
          rw [← HPI.out]
          simp only [cnt, ep.out]
          by_cases e : z = pl
          · subst e; rw [if_pos rfl, if_pos rfl, if_pos rfl, ← HXX.out]; go_num
          · rw [if_neg e, if_neg e, if_neg e]
      · have b : ((pl : Int) == (pi : Int)) = false := by rw [beq_eq_false_iff_ne]; omega
        have HPP := hid hpp
        clear hpp
        go_wp2_with fail
        go_quiet (fail)
        go_wp2_with fail
        go_roundg (i + 1 - (j + 1))
        case measure => have := Hj.out; omega
        case rel =>
          refine ⟨j + 1, by go_num, by omega, by show _ = _; omega, ?_, (V.out.alloc _).drewN _⟩
          refine (Ha.out.alloc _).congr (fun z hz => ?_)
          rw [← HPI.out]
          simp only [cnt, ep.out]
          by_cases e : z = pi
          · rw [if_pos e, if_pos e, if_neg (fun q => HPP.out (q.trans e))]; rfl
          · rw [if_neg e, if_neg e]
    · obtain rfl : j = i + 1 := by omega
      have U2 := hid (U.out.trans V.out (by simp))
      have H2 := hid (H.out.upd V.out)
      obtain ⟨h1, g1, c1, e1, r1, r2, r3⟩ := (R.out.upd V.out) i IL.out
      cases e1
      have K := hid (CutAt.mk r2 (vcut_clock HV.out IL.out))
      have AL : Hid (CutAt wr C l (aloneC l i)) := ⟨Arr.row (n := 8) (t := 3) (Ha.out.congr (fun z hz => by rw [alone_get _ _ _ hz]; split <;> rfl)) (alone_len l i), vcut_alone l i IL.out⟩
      have R1 := r1
      clear Ha r2 r3
      have EQ := hid (least_alone HV.out IL.out)
      go_wp2_with fail
      refine (H_whole_yes H2.out _ K.out (whole_clock HV.out IL.out)).mono ?_
      rintro e p1 ⟨rfl, hu⟩
      replace H2 := hid (H2.out.upd hu); replace AL := hid (AL.out.upd hu); replace K := hid (K.out.upd hu)
      have R2 := hid (hu.cell R1 (by simp))
      replace U2 := hid (U2.out.trans hu (by simp))
      clear hu R1 r1
      go_wp2_with fail
      refine (H_least H2.out _ AL.out).mono ?_
      rintro e p2 ⟨gx, cx, rfl, X, hu⟩
      replace K := hid (K.out.upd hu)
      have R3 := hu.cell R2.out (by simp)
      replace U2 := hid (U2.out.trans hu (by simp))
      clear hu R2 H2
      go_wp2_with fail
      refine (H_equal _ X.out _ K.out (B := true) (by simp; exact EQ.out)).mono ?_
      rintro e p3 ⟨rfl, hu⟩
      replace U2 := hid (U2.out.trans hu (by simp))
      clear hu
      go_wp2_with fail
      go_ret
      exact ⟨rfl, U2.out⟩
end Go.Proofs.Ytcdladnbcamgjaa.CCk
