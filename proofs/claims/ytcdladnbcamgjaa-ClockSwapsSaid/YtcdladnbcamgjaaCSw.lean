/- The walk of the statement ClockSwaps. -/
import Derived.Test.YtcdladnbcamgjaaEc
import Derived.Test.YtcdladnbcamgjaaEf
namespace Go.Proofs.Ytcdladnbcamgjaa.CSw
open Go Go.RowKit Go.Proofs.Ytcdladnbcamgjaa.K Go.Proofs.Ytcdladnbcamgjaa.Ev Go.Proofs.Ytcdladnbcamgjaa.Ck Go.Proofs.Ytcdladnbcamgjaa.R Go.Proofs.Ytcdladnbcamgjaa.CL Go.Proofs.Ytcdladnbcamgjaa.CW Go.Proofs.Ytcdladnbcamgjaa.Th Go.Proofs.Ytcdladnbcamgjaa.Ah Go.Proofs.Ytcdladnbcamgjaa.Cu Go.Proofs.Ytcdladnbcamgjaa.Ha Go.Proofs.Ytcdladnbcamgjaa.SwT Go.Proofs.Ytcdladnbcamgjaa.Ec Go.Proofs.Ytcdladnbcamgjaa.Ef Go.Proofs.Ytcdladnbcamgjaa.O Go.Proofs.Ytcdladnbcamgjaa.M

set_option maxHeartbeats 8000000 in
set_option maxRecDepth 100000 in
theorem the_walk (a0 : Option Addr) (len0 cap0 : Nat) (z0 : List Int) (i0 : Int) (w : World) (hc0 : len0 ≤ cap0) (hm0 : cap0 ≤ 9223372036854775807) (r0 : IntRow w a0 z0) (e0 : z0.length = len0) :
    Calls Try.prog 7 #[.slice a0 len0 cap0, .int .i64 i0] w fun e w' => e = .returned (.bool true) ∧ Upd [] w w' := by
  have R0 := hid r0
  have E0 := hid e0
  clear r0 e0
  have U := hid (Upd.refl [] w)
  go_enter Try.func7, Try.ntmps7
  go_wp2_with fail
  refine (begun_any _).mono ?_
  rintro e w1 ⟨rfl, hu⟩
  replace U := hid (U.out.trans hu (by simp)); replace R0 := hid (R0.out.upd hu)
  clear hu
  go_wp2_with fail
  refine (hist_at a0 len0 cap0 z0 _ R0.out E0.out hc0 hm0).mono ?_
  rintro e w2 ⟨l, n, b, c, rfl, H, hn, hlc2, hc2, hu⟩
  replace U := hid (U.out.trans hu (by simp))
  clear hu R0 E0 hc0 hm0
  have HV := hid H.out.valid
  by_cases hn2 : n < 2
  · go_wp2_with fail
    go_ret
    exact ⟨rfl, U.out⟩
  · have hn2' : ¬ (n : Int) < 2 := by omega
    go_wp2_with fail
    refine (rest_some _ _ _ (by omega) (by omega)).mono ?_
    rintro e w' ⟨i, hi, -, rfl, rfl⟩
    have hi2 : i + 1 < n := by omega
    have IL := hid (show i + 1 < l.length by rw [← H.out.len]; exact hi2)
    obtain ⟨g0, rfl, -⟩ := H.out.row 0 (by rw [← H.out.len]; omega)
    have A := ahead_any (some ⟨g0, 0, none⟩) c l i (i + 1) w2 H.out.row (by rw [← H.out.len]; exact hlc2) hc2 (by rw [← H.out.len]; omega) HV.out (by have := IL.out; omega) IL.out
    rw [← H.out.len, show ((i + 1 : Nat) : Int) = (i : Int) + 1 by omega] at A
    obtain ⟨B, hB⟩ : ∃ B, B = aheadL l i (i + 1) := ⟨_, rfl⟩
    rw [← hB] at A
    have HB := hid hB
    clear hB
    go_wp2_with fail
    refine A.mono ?_
    rintro e w3 ⟨rfl, hu⟩
    replace U := hid (U.out.trans hu (by simp)); replace H := hid (H.out.upd hu)
    clear hu A
    cases B with
    | true =>
      go_wp2_with fail
      go_ret
      exact ⟨rfl, U.out⟩
    | false =>
      have SP := hid (sep_of_not_ahead HV.out IL.out HB.out.symm)
      have cl := cloneEv g0 c l w3 H.out.row (by rw [← H.out.len]; omega) (by rw [← H.out.len]; omega)
      rw [← H.out.len] at cl
      go_wp2_with fail
      refine cl.mono ?_
      rintro e w4 ⟨g4, c4, rfl, ho, hc4, hc5, hg4, hu⟩
      have H3 := H; have U3 := U
      replace U := hid (U.out.trans hu (by simp)); replace H := hid (H.out.upd hu)
      have UW := hid hu
      have ES : Hid (Evs w4 g4 n c4 l) := ⟨H.out.len.symm, _, ho⟩
      have G4 := hid hg4
      clear hu cl ho hg4
      obtain ⟨g', e1, c0, c1, c2⟩ := ES.out.row i (by have := IL.out; omega)
      cases e1
      obtain ⟨g', e1, d0, d1, d2⟩ := ES.out.row (i + 1) IL.out
      cases e1
      obtain ⟨⟨pl, kd, ms⟩, hev⟩ : ∃ ev, ev = l.getD i noEv := ⟨_, rfl⟩
      obtain ⟨⟨pl', kd', ms'⟩, hev'⟩ : ∃ ev, ev = l.getD (i + 1) noEv := ⟨_, rfl⟩
      rw [← hev] at c0 c1 c2
      rw [← hev'] at d0 d1 d2
      simp only at c0 c1 c2 d0 d1 d2
      have f0 := ES.out.fro (i * 3)
      have f1 := ES.out.fro (i * 3 + 1)
      have f2 := ES.out.fro (i * 3 + 2)
      have f3 := ES.out.fro ((i + 1) * 3)
      have f4 := ES.out.fro ((i + 1) * 3 + 1)
      have f5 := ES.out.fro ((i + 1) * 3 + 2)
      have hi' : (i : Int) < (n : Int) := by omega
      have hi2' : (i : Int) + 1 < (n : Int) := by omega
      have HE := hid hev
      have HE' := hid hev'
      clear hev hev'
      go_wp2_with fail
      go_region
      obtain ⟨W5, hW5⟩ : ∃ W5, W5 = ((((((w4.setCell ⟨g4, i * 3, none⟩ (.int .i64 (pl' : Int))).setCell ⟨g4, i * 3 + 1, none⟩ (.int .i64 (kd' : Int))).setCell ⟨g4, i * 3 + 2, none⟩ (.int .i64 (ms' : Int))).setCell ⟨g4, (i + 1) * 3, none⟩ (.int .i64 (pl : Int))).setCell ⟨g4, (i + 1) * 3 + 1, none⟩ (.int .i64 (kd : Int))).setCell ⟨g4, (i + 1) * 3 + 2, none⟩ (.int .i64 (ms : Int))).drew := ⟨_, rfl⟩
      have U5 : Hid (Upd [] w3 W5) := by
        rw [hW5]
        have G := G4.out
        exact ((((((UW.out.setCell (p := ⟨g4, i * 3, none⟩) (.inr G) _).setCell (p := ⟨g4, i * 3 + 1, none⟩) (.inr G) _).setCell (p := ⟨g4, i * 3 + 2, none⟩) (.inr G) _).setCell (p := ⟨g4, (i + 1) * 3, none⟩) (.inr G) _).setCell (p := ⟨g4, (i + 1) * 3 + 1, none⟩) (.inr G) _).setCell (p := ⟨g4, (i + 1) * 3 + 2, none⟩) (.inr G) _).drew
      have S5 : Hid (HistAt W5 (some ⟨g4, 0, none⟩) c4 (swp l i) n) := by
        have e := (ES.out.set (i := i) (by omega) ⟨pl', kd', ms'⟩).set (i := i + 1) hi2 ⟨pl, kd, ms⟩
        have es : swp l i = (l.set i ⟨pl', kd', ms'⟩).set (i + 1) ⟨pl, kd, ms⟩ := by
          show (l.set i (l.getD (i + 1) noEv)).set (i + 1) (l.getD i noEv) = _
          rw [← HE.out, ← HE'.out]
        simp only at e
        have e2 : Evs W5 g4 n c4 (swp l i) := by rw [hW5, es]; exact e.drew
        exact ⟨e2.row, by rw [swp_length]; exact H.out.len, hc4, hc5, H.out.small, swp_valid HV.out IL.out SP.out⟩
      rw [← hW5]
      have H5 := hid (H3.out.upd U5.out)
      have V5 := hid (U3.out.trans U5.out (by simp))
      clear hW5 ES UW G4 c0 c1 c2 d0 d1 d2 f0 f1 f2 f3 f4 f5 HE HE' U H U5 H3 U3
      go_wp2_with fail
      refine (H_clocks H5.out).mono ?_
      rintro e w6 ⟨ba, ca, rfl, RA, hca, hca2, hu⟩
      replace V5 := hid (V5.out.trans hu (by simp)); replace S5 := hid (S5.out.upd hu)
      have RZ : Hid (Rowz w6 ba n (clockAt l)) := fun j hj => RA.out j (by rw [← H5.out.len]; exact hj)
      have RZ6 := RZ
      have V6 := V5
      clear hu RA
      have ck := clocks_any (some ⟨g4, 0, none⟩) c4 (swp l i) w6 S5.out.row (by rw [← S5.out.len]; exact hc4) hc5 (by rw [← S5.out.len]; omega) S5.out.valid
      rw [← S5.out.len] at ck
      go_wp2_with fail
      refine ck.mono ?_
      rintro e w7 ⟨v, vs, rfl, ho, hr, hu⟩
      replace V5 := hid (V5.out.trans hu (by simp)); replace RZ := hid (RZ.out.upd hu)
      have U67 := hid hu
      clear hu ck
      obtain ⟨a7, k7, rfl, h1, h2, hc7⟩ := own_view ho
      obtain ⟨u1, hu1, q1⟩ := hr i (by omega)
      obtain ⟨u2, hu2, q2⟩ := hr (i + 1) hi2
      obtain ⟨h, rfl, hge, d1, df⟩ := hc7 i u1 hu1
      obtain ⟨h', e', -, d2, -⟩ := hc7 (i + 1) u2 hu2
      cases e'
      obtain ⟨g1, m1, rfl, -⟩ := q1.some
      obtain ⟨g2, m2, rfl, -⟩ := q2.some
      have df1 := df i
      have df2 := df (i + 1)
      have HO := hid ho
      have HR := hid hr
      have HC := hid hc7
      have HU1 := hid hu1
      have HU2 := hid hu2
      have HGE := hid hge
      clear ho hr hc7 hu1 hu2 hge df q1 q2
      go_wp2_with fail
      go_region
      obtain ⟨W8, hW8⟩ : ∃ W8, W8 = ((w7.setCell ⟨h, i, none⟩ (.slice (some ⟨g2, 0, none⟩) 8 m2)).setCell ⟨h, i + 1, none⟩ (.slice (some ⟨g1, 0, none⟩) 8 m1)).drew := ⟨_, rfl⟩
      have U8 : Hid (Upd [h] w7 W8) := by rw [hW8]; exact (((Upd.refl [h] w7).setCell (p := ⟨h, i, none⟩) (.inl (by simp)) _).setCell (p := ⟨h, i + 1, none⟩) (.inl (by simp)) _).drew
      have V8 : Hid (Upd [] w6 W8) := by rw [hW8]; exact ((U67.out.setCell (p := ⟨h, i, none⟩) (.inr HGE.out) _).setCell (p := ⟨h, i + 1, none⟩) (.inr HGE.out) _).drew
      have O8 : Hid (W8.ownsRow w6.heap.size 22 1 (.slice (some ⟨h, 0, none⟩) n k7) n ((vs.set i (.slice (some ⟨g2, 0, none⟩) 8 m2)).set (i + 1) (.slice (some ⟨g1, 0, none⟩) 8 m1))) := by
        rw [hW8]
        have hvl : vs.length = n := by have := HO.out.1; omega
        exact (row_set (row_set HO.out (by omega) _) (by simp; omega) _).drew
      rw [← hW8]
      have RB : Hid (Rowz W8 (some ⟨h, 0, none⟩) n (clockAt l)) := fun j hj => by
        have hvl : vs.length = n := by have := HO.out.1; omega
        -- what lies at j, and where it comes from
        have key : ∀ (j' : Nat) (u : Value), j' < n → vs[j']? = some u → ((vs.set i (.slice (some ⟨g2, 0, none⟩) 8 m2)).set (i + 1) (.slice (some ⟨g1, 0, none⟩) 8 m1))[j]? = some u → clockAt (swp l i) j' = clockAt l j → ∃ h' g c, (some ⟨h, 0, none⟩ : Option Addr) = some ⟨h', 0, none⟩ ∧ W8.cell? ⟨h', j, none⟩ = some (.slice (some ⟨g, 0, none⟩) 8 c) ∧ IntRow W8 (some ⟨g, 0, none⟩) (clockAt l j) ∧ (clockAt l j).length = 8 := fun j' u hj' hv hw hcl => by
          obtain ⟨u', e1, q⟩ := HR.out j' hj'
          rw [hv] at e1
          cases e1
          obtain ⟨a9, k9, e9, -, -, hc9⟩ := own_view O8.out
          cases e9
          obtain ⟨h9, e9, -, dd, -⟩ := hc9 j u hw
          cases e9
          rw [hcl] at q
          have q8 : Row8 W8 w6.heap.size u (clockAt l j) := own_upd q U8.out (fun k hk => by
            obtain ⟨cur, hb⟩ := own_block HO.out h rfl
            have := own_cells_ne q hb (by decide) k hk
            simpa using this)
          obtain ⟨g, c', rfl, -⟩ := q8.some
          exact ⟨h, g, c', rfl, dd, q8.intRow.1, q8.intRow.2⟩
        have hlj : j < l.length := by rw [← H5.out.len]; exact hj
        by_cases e1 : j = i
        · subst e1
          refine key (j + 1) _ hi2 HU2.out ?_ ?_
          · rw [List.getElem?_set_ne (by omega), List.getElem?_set_self (by omega)]
          · rw [swp_clock HV.out IL.out SP.out _ IL.out, if_neg (by omega), if_pos rfl]
        by_cases e2 : j = i + 1
        · subst e2
          refine key i _ (by omega) HU1.out ?_ ?_
          · rw [List.getElem?_set_self (by simp; omega)]
          · rw [swp_clock HV.out IL.out SP.out _ (by omega), if_pos rfl]
        · obtain ⟨u, hu, -⟩ := HR.out j hj
          refine key j u hj hu ?_ ?_
          · rw [List.getElem?_set_ne (by omega), List.getElem?_set_ne (by omega)]; exact hu
          · rw [swp_clock HV.out IL.out SP.out _ hlj, if_neg e1, if_neg e2]
      have RA8 : Hid (Rowz W8 ba n (clockAt l)) := RZ6.out.upd V8.out
      clear hW8 O8 U8 HR HC HU1 HU2 d1 d2 df1 df2 HO
      go_wp2_with fail
      refine (eqf29 ba (some ⟨h, 0, none⟩) n ca k7 (clockAt l) W8 RA8.out RB.out (by omega)).mono ?_
      rintro e w9 ⟨rfl, hu⟩
      have V9 := hid (V6.out.trans (V8.out.trans hu (by simp)) (by simp))
      clear hu
      go_wp2_with fail
      go_ret
      exact ⟨rfl, V9.out⟩
end Go.Proofs.Ytcdladnbcamgjaa.CSw
