/- Names: Merge. -/
import Derived.Test.YtbkhjmdklghbiaaDoorNt
namespace Go.Proofs.YtbkhjmdklghbiaaDoor.Nm
open Go Go.RowKit Go.Proofs.YtbkhjmdklghbiaaDoor Go.Proofs.YtbkhjmdklghbiaaDoor.K Go.Proofs.YtbkhjmdklghbiaaDoor.M Go.Proofs.YtbkhjmdklghbiaaDoor.O

theorem k_take (k : List Row) (i : Nat) (hi : i < k.length) : k.take (i + 1) = k.take i ++ [k.getD i noRow] := by
  rw [List.take_add_one, List.getD_eq_getElem?_getD, List.getElem?_eq_getElem hi]; rfl
theorem rmerge_snoc (l k : List Row) (r : Row) : rmerge l (k ++ [r]) = mstep (rmerge l k) r := by simp [rmerge, List.foldl_append]
theorem cmax_snoc (c : Nat) (k : List Row) (r : Row) : cmax c (k ++ [r]) = max (cmax c k) r.count := by simp [cmax, List.foldl_append]
set_option maxHeartbeats 16000000 in
set_option maxRecDepth 100000 in
theorem merge_any {w : World} {F : List Nat} {g : Nat} {s : G} {b : Nat} (h : IsG w F g s) (ho : Ok s b) (hb : b ≤ 1000000) (a : Option Addr) (n c : Nat) (k : List Row) (hn : n = k.length) (hk : WF k) (hkb : RB k b) (hr : RowAt w a k) :
    Calls Tryd.prog 11 #[.pointer (some ⟨g, 0, none⟩), .slice a n c] w fun e w' => e = .returned (.int .i64 0) ∧ ∃ F', IsG w' F' g (gmerge s k) ∧ Fresh w F F' ∧ Upd F w w' := by
  have CK := hid (check_any a n c k b w hn hk hkb (by omega) hr)
  obtain ⟨v, hg, hF⟩ := h
  have HF := hid hF
  have HG := hid hg
  have HN := hid hn
  have HK := hid hk
  have HKB := hid hkb
  have HR := hid hr
  have HO := hid ho
  have hn7 : n ≤ 7 := by rw [hn]; exact hk.few
  clear hg hF hn hk hkb hr ho
  go_enter Tryd.func11, Tryd.ntmps11
  go_wp2_with fail
  refine CK.out.mono ?_
  rintro e w1 ⟨rfl, hu⟩
  have U1 := hid hu
  have HG1 := hid (HG.out.new hu)
  have cg := HG1.out.cells.2.2.1
  have CR := hid (clone_rows HG1.out.rows (by have := HO.out.wf.few; omega))
  clear hu CK
  go_wp2_with fail
  refine CR.out.mono ?_
  rintro e w2 ⟨v6, rfl, hoo, hu⟩
  have U2 := hid (U1.out.trans hu (fun t ht => by cases ht))
  have HG2 := hid (HG1.out.new hu)
  have O2 := hid (own_mono (b' := 0) hoo (Nat.zero_le _))
  have N2 := hid (fun x (hx : v6.ownBlock = some x) => (show w.heap.size ≤ x from Nat.le_trans U1.out.size (own_ge hoo x hx)))
  have c1 := HG2.out.cells.2.1
  clear hu hoo CR cg HG1 U1
  go_wp2_with fail
  go_loopg [6, 7, 28] n (fun d v6 v7 v28 wr => ∃ i : Nat, v28 = .int .i64 (i : Int) ∧ v7 = .int .i64 ((cmax s.count (k.take i) : Nat) : Int) ∧ i ≤ n ∧ Hid (i + d = n) ∧ Hid (wr.ownsRow 0 40 4 v6 (rmerge s.rows (k.take i)).length (rowCells (rmerge s.rows (k.take i)))) ∧ Hid (∀ x, v6.ownBlock = some x → w.heap.size ≤ x) ∧ Hid (Upd [] w wr))
  case atStart => exact ⟨0, rfl, rfl, by omega, hid (by omega), O2, N2, U2⟩
  case round =>
    clear O2 N2 U2 HG2 c1
    obtain ⟨i, rfl, rfl, hi, Hd, HL, HB, HU⟩ := hrel
    have hkk : ∀ y ∈ k.take i, y.name < 7 := fun y hy => HK.out.keys' (List.mem_of_mem_take hy)
    have HWL := hid (WF.rmerge (k.take i) HO.out.wf hkk)
    obtain ⟨L, hL⟩ : ∃ L, L = rmerge s.rows (k.take i) := ⟨_, rfl⟩
    rw [← hL] at HL HWL
    have HLL := hid hL
    have hcm : cmax s.count (k.take i) ≤ b := cmax_le _ _ _ HO.out.le (fun x hx => by have := HKB.out.mem (List.mem_of_mem_take hx); omega)
    obtain ⟨cm, hcmm⟩ : ∃ cm, cm = cmax s.count (k.take i) := ⟨_, rfl⟩
    rw [← hcmm] at hcm ⊢
    have HCM := hid hcmm
    clear hL hcmm hkk
    obtain ⟨a6, k6, e6, h6, -⟩ := own_view HL.out
    subst e6
    have H6 := hid h6
    have HBJ := hid (fun (j : Nat) x (hx : (Value.slice a6 j k6).ownBlock = some x) => (show w.heap.size ≤ x from HB.out x (by cases a6 with | none => cases hx | some _ => exact hx)))
    clear h6 HB
    by_cases hin : i < n
    · have hi' : (i : Int) < (n : Int) := by omega
      have hik : i < k.length := by rw [← HN.out]; exact hin
      obtain ⟨g', rfl, d0, d1, d2, d3⟩ := (HR.out.new HU.out) i hik
      have HTK := hid (k_take k i hik)
      have HRM := hid (show k.getD i noRow ∈ k from mem_getD.2 ⟨i, hik, rfl⟩)
      obtain ⟨r, hr⟩ : ∃ r, r = k.getD i noRow := ⟨_, rfl⟩
      rw [← hr] at d0 d1 d2 d3 HTK HRM
      have hrb := (HKB.out.mem HRM.out).1
      have hr7 := HK.out.keys' HRM.out
      have SR := fun w' (u : Upd [] wr w') => hid (search_any 25 cmps25 a6 L.length k6 L r.name w' rfl HWL.out.up HWL.out.keys hr7 ((rowAt_own HL.out).new u) (by have := HWL.out.few; omega) H6.out)
      have OR := fun (x : Row) w => hid (order_any x r w)
      obtain ⟨st, hst⟩ : ∃ st, st = nmS r.name := ⟨_, rfl⟩
      obtain ⟨r1, hr1⟩ : ∃ x, x = r.ref := ⟨_, rfl⟩
      obtain ⟨r2, hr2⟩ : ∃ x, x = r.count := ⟨_, rfl⟩
      obtain ⟨r3, hr3⟩ : ∃ x, x = r.node := ⟨_, rfl⟩
      have RV := hid (show rowVals r = [.string st, .int .i64 (r1 : Int), .int .i64 (r2 : Int), .int .i64 (r3 : Int)] by unfold rowVals; rw [← hst, ← hr1, ← hr2, ← hr3])
      rw [← hst] at d0 SR
      rw [← hr1] at d1
      rw [← hr2] at d2 hrb
      rw [← hr3] at d3
      rw [RV.out] at OR
      have HR2 := hid hr2
      have HST := hid hst
      clear hr hst hr1 hr2 hr3 hik
      obtain ⟨mx, hmx⟩ : ∃ mx : Nat, max (cm : Int) (r2 : Int) = (mx : Int) := ⟨max cm r2, by omega⟩
      have hmax := fun ats ty => max_nat ats ty .i64 .i64 (cm : Int) (r2 : Int) mx hmx
      have HMX := hid (show mx = max cm r2 by omega)
      clear hmx
      obtain ⟨Y, hY⟩ : ∃ Y, Y = wr.heap.size := ⟨_, rfl⟩
      obtain ⟨w3, hw3⟩ : ∃ w3, w3 = wr.alloc (.cells #[.string st, .int .i64 (r1 : Int), .int .i64 (r2 : Int), .int .i64 (r3 : Int)] 40) := ⟨_, rfl⟩
      have u3 := hid (show Upd [] wr w3 by rw [hw3]; exact (Upd.refl [] wr).alloc _)
      have YB := hid (show w3.heap[Y]? = some (.cells #[.string st, .int .i64 (r1 : Int), .int .i64 (r2 : Int), .int .i64 (r3 : Int)] 40 (0, 0)) by rw [hw3, hY]; exact K.blk_new wr _)
      have SR3 := SR w3 u3.out
      have HW3 := hid hw3
      have HY := hid hY
      obtain ⟨m, hm⟩ : ∃ m, m = L.length := ⟨_, rfl⟩
      rw [← hm] at SR3 HL
      have HML := hid hm
      obtain ⟨p, hp⟩ : ∃ p, p = posOf L r.name := ⟨_, rfl⟩
      obtain ⟨q, hq⟩ : ∃ q, q = hasRow L r.name := ⟨_, rfl⟩
      rw [← hp, ← hq] at SR3
      have HP := hid hp
      have HQ := hid hq
      rw [← hm]
      clear SR hw3 hY hm hp hq
      go_wp2_with fail
      rw [← HW3.out, ← HY.out]
      refine SR3.out.mono ?_
      rintro e w4 ⟨rfl, hu⟩
      have u4 := hid (u3.out.trans hu (fun t ht => by cases ht))
      have U4 := hid (HU.out.trans u4.out (fun t ht => by cases ht))
      have HL4 := hid (own_new HL.out u4.out)
      have YB4 := hid (hu.blk YB.out (by simp))
      have y0 : w4.cell? ⟨Y, 0, none⟩ = some (.string st) := K.blk_cell YB4.out 0
      have y1 : w4.cell? ⟨Y, 1, none⟩ = some (.int .i64 (r1 : Int)) := K.blk_cell YB4.out 1
      have y2 : w4.cell? ⟨Y, 2, none⟩ = some (.int .i64 (r2 : Int)) := K.blk_cell YB4.out 2
      have y3 : w4.cell? ⟨Y, 3, none⟩ = some (.int .i64 (r3 : Int)) := K.blk_cell YB4.out 3
      clear hu SR3 HW3 HY u3 HL HU YB d0 d1 d2 d3
      cases q with
      | false =>
        go_wp2_with fail
        obtain ⟨w5, hw5⟩ : ∃ w5, w5 = w4.alloc (.cells #[.string st, .int .i64 (r1 : Int), .int .i64 (r2 : Int), .int .i64 (r3 : Int)] 40) := ⟨_, rfl⟩
        obtain ⟨Z, hZ⟩ : ∃ Z, Z = w4.heap.size := ⟨_, rfl⟩
        have u5 := hid (show Upd [] w4 w5 by rw [hw5]; exact (Upd.refl [] w4).alloc _)
        have ZB := hid (show w5.heap[Z]? = some (.cells #[.string st, .int .i64 (r1 : Int), .int .i64 (r2 : Int), .int .i64 (r3 : Int)] 40 (0, 0)) by rw [hw5, hZ]; exact K.blk_new w4 _)
        have nz := hid (show (Value.slice a6 m k6).ownBlock ≠ some Z from fun q => by have := own_lt HL4.out Z q; omega)
        rw [← hw5, ← hZ]
        have HL5 := own_new HL4.out u5.out
        rw [HML.out] at HL5
        have CI := insert_any (w := w5) HL5 r Z (by rw [RV.out]; exact ZB.out) (by rw [← HML.out]; exact nz.out) p (by rw [HP.out]; exact pos_le _ _) (by have := HWL.out.few; omega)
        rw [← HML.out] at CI
        have CI' := hid CI
        clear HL5 CI hw5 hZ
        refine CI'.out.mono ?_
        rintro e w6 ⟨v6', rfl, ho6, hu6, hf6⟩
        have O6 := hid ho6
        have U6 := hid ((U4.out.trans u5.out (fun t ht => by cases ht)).trans hu6 (fun t ht => .inr (HBJ.out _ t (by simpa using ht))))
        have N6 := hid (fun x (hx : v6'.ownBlock = some x) => (show w.heap.size ≤ x from by
          rcases hf6 x hx with q | q
          · exact HBJ.out _ x q
          · exact Nat.le_trans (U4.out.trans u5.out (fun t ht => by cases ht)).size q))
        clear ho6 hu6 hf6 CI'
        go_wp2_with fail
        go_roundg (n - (i + 1))
        case measure => have := Hd.out; omega
        case rel =>
          have e1 : rmerge s.rows (k.take (i + 1)) = insAt L p r := by
            rw [HTK.out, rmerge_snoc, ← HLL.out]
            unfold mstep
            rw [if_neg (by rw [← HQ.out]; decide), ← HP.out]
          refine ⟨i + 1, by go_num, ?_, by omega, hid (by omega), hid ?_, N6, U6⟩
          · rw [HTK.out, cmax_snoc, ← HCM.out, HMX.out, HR2.out]
          · rw [e1, insAt_len _ _ _ (by rw [HP.out]; exact pos_le _ _), ← HML.out]
            exact O6.out
      | true =>
        have hpm : p < L.length := by rw [HP.out]; exact (has_lt HQ.out.symm).1
        have HPM := hid hpm
        have hpm' : (p : Int) < (m : Int) := by have := HML.out; omega
        have HL4' := HL4.out
        rw [HML.out] at HL4'
        obtain ⟨g6, e6, e0, e1, e2, e3⟩ := (rowAt_own HL4') p hpm
        subst e6
        obtain ⟨x, hx⟩ : ∃ x, x = L.getD p noRow := ⟨_, rfl⟩
        rw [← hx] at e0 e1 e2 e3
        have OX := OR x
        have HX := hid hx
        have ON := hid (ord_newer x r)
        obtain ⟨xs, hxs⟩ : ∃ z, z = nmS x.name := ⟨_, rfl⟩
        obtain ⟨x1, hx1⟩ : ∃ z, z = x.ref := ⟨_, rfl⟩
        obtain ⟨x2, hx2⟩ : ∃ z, z = x.count := ⟨_, rfl⟩
        obtain ⟨x3, hx3⟩ : ∃ z, z = x.node := ⟨_, rfl⟩
        unfold rowVals at OX
        rw [← hxs, ← hx1, ← hx2, ← hx3] at OX
        rw [← hxs] at e0
        rw [← hx1] at e1
        rw [← hx2] at e2
        rw [← hx3] at e3
        obtain ⟨od, hod⟩ : ∃ od, od = ordN x r := ⟨_, rfl⟩
        rw [← hod] at OX ON
        clear hx hxs hx1 hx2 hx3 hod OR HL4' hpm
        go_upto_region 13 with (fail)
        refine J.J_begin (fun wz => wz.cell? ⟨g6, p * 4, none⟩ = some (.string xs) ∧ wz.cell? ⟨g6, p * 4 + 1, none⟩ = some (.int .i64 (x1 : Int)) ∧ wz.cell? ⟨g6, p * 4 + 2, none⟩ = some (.int .i64 (x2 : Int)) ∧ wz.cell? ⟨g6, p * 4 + 3, none⟩ = some (.int .i64 (x3 : Int)) ∧ wz.cell? ⟨Y, 0, none⟩ = some (.string st) ∧ wz.cell? ⟨Y, 1, none⟩ = some (.int .i64 (r1 : Int)) ∧ wz.cell? ⟨Y, 2, none⟩ = some (.int .i64 (r2 : Int)) ∧ wz.cell? ⟨Y, 3, none⟩ = some (.int .i64 (r3 : Int))) 6 (by kernel_rfl) ⟨by kernel_rfl, by kernel_rfl, by kernel_rfl⟩ ⟨e0, e1, e2, e3, y0, y1, y2, y3⟩ (fun LAST HS => ?_)
        refine J.J_take (i := 0) (v := ?_) LAST (by rfl) (by decide) (by kernel_rfl) (by kernel_rfl) (by intro _ _ _ h; exact h) HS (Or.inl ⟨by rfl, ?_⟩) ?_
        rotate_left
        · intro w hSw; (try dsimp only at hSw); go_simp; try with_reducible rfl
        try simp only [Act.put, List.setIfInBounds_toArray, List.set_cons_zero, List.set_cons_succ]
        refine J.J_take (i := 1) (v := ?_) LAST (by rfl) (by decide) (by kernel_rfl) (by kernel_rfl) (by intro _ _ _ h; exact h) HS (Or.inl ⟨by rfl, ?_⟩) ?_
        rotate_left
        · intro w hSw; (try dsimp only at hSw); go_simp; try with_reducible rfl
        try simp only [Act.put, List.setIfInBounds_toArray, List.set_cons_zero, List.set_cons_succ]
        refine J.J_take (i := 2) (v := ?_) LAST (by rfl) (by decide) (by kernel_rfl) (by kernel_rfl) (by intro _ _ _ h; exact h) HS (Or.inl ⟨by rfl, ?_⟩) ?_
        rotate_left
        · intro w hSw; (try dsimp only at hSw); go_simp; try with_reducible rfl
        try simp only [Act.put, List.setIfInBounds_toArray, List.set_cons_zero, List.set_cons_succ]
        refine J.J_take (i := 3) (v := ?_) LAST (by rfl) (by decide) (by kernel_rfl) (by kernel_rfl) (by intro _ _ _ h; exact h) HS (Or.inl ⟨by rfl, ?_⟩) ?_
        rotate_left
        · intro w hSw; (try dsimp only at hSw); go_simp; try with_reducible rfl
        try simp only [Act.put, List.setIfInBounds_toArray, List.set_cons_zero, List.set_cons_succ]
        refine J.J_take (i := 4) (v := ?_) LAST (by rfl) (by decide) (by kernel_rfl) (by kernel_rfl) (by intro _ _ _ h; exact h) HS (Or.inl ⟨by rfl, ?_⟩) ?_
        rotate_left
        · intro w hSw; (try dsimp only at hSw); go_simp; try with_reducible rfl
        try simp only [Act.put, List.setIfInBounds_toArray, List.set_cons_zero, List.set_cons_succ]
        refine J.J_one (i := 5) (by rfl) (by decide) (by kernel_rfl) (fun KK hK => ?_)
        go_simp
        refine (OX _).out.mono ?_
        rintro e w5 ⟨rfl, hu5⟩
        have u5 := hid (show Upd [] w4 w5 from (Upd.refl [] w4).drew.trans hu5 (fun t ht => by cases ht))
        have HS5 : w5.cell? ⟨g6, p * 4, none⟩ = some (.string xs) ∧ w5.cell? ⟨g6, p * 4 + 1, none⟩ = some (.int .i64 (x1 : Int)) ∧ w5.cell? ⟨g6, p * 4 + 2, none⟩ = some (.int .i64 (x2 : Int)) ∧ w5.cell? ⟨g6, p * 4 + 3, none⟩ = some (.int .i64 (x3 : Int)) ∧ w5.cell? ⟨Y, 0, none⟩ = some (.string st) ∧ w5.cell? ⟨Y, 1, none⟩ = some (.int .i64 (r1 : Int)) ∧ w5.cell? ⟨Y, 2, none⟩ = some (.int .i64 (r2 : Int)) ∧ w5.cell? ⟨Y, 3, none⟩ = some (.int .i64 (r3 : Int)) := ⟨u5.out.cell e0 (by simp), u5.out.cell e1 (by simp), u5.out.cell e2 (by simp), u5.out.cell e3 (by simp), u5.out.cell y0 (by simp), u5.out.cell y1 (by simp), u5.out.cell y2 (by simp), u5.out.cell y3 (by simp)⟩
        go_simp
        refine hK.out _ _ HS5 ?_
        clear hK KK
        try simp only [List.setIfInBounds_toArray]
        refine J.J_last (by rfl) (by kernel_rfl) (by kernel_rfl) ?_
        clear LAST HS e0 e1 e2 e3 y0 y1 y2 y3 OX hu5
        have U5 := hid (U4.out.trans u5.out (fun t ht => by cases ht))
        have HL5 := hid (own_new HL4.out u5.out)
        obtain ⟨e0, e1, e2, e3, y0, y1, y2, y3⟩ := HS5
        clear U4 HL4 YB4 u4 u5
        by_cases hod : od < 0
        · have hnew := ON.out.1 hod
          obtain ⟨cur, hb⟩ := own_block HL5.out g6 rfl
          have f0 := K.blk_frozen hb (p * 4)
          have f1 := K.blk_frozen hb (p * 4 + 1)
          have f2 := K.blk_frozen hb (p * 4 + 2)
          have f3 := K.blk_frozen hb (p * 4 + 3)
          have HNW := hid hnew
          clear hnew hb
          go_simp
          go_wp2_with fail
          go_roundg (n - (i + 1))
          case measure => have := Hd.out; omega
          case rel =>
            have e1 : rmerge s.rows (k.take (i + 1)) = L.set p r := by
              rw [HTK.out, rmerge_snoc, ← HLL.out]
              unfold mstep
              rw [if_pos HQ.out.symm, ← HP.out, ← HX.out, if_pos HNW.out]
            have hs : ∀ (z : Nat), z < 4 → p * 4 + z < (rowCells L).length := fun z hz => by rw [rowCells_len]; have := HPM.out; omega
            have h0 := row_set HL5.out (i := p * 4) (hs 0 (by decide)) (.string st)
            have h1 := row_set h0 (i := p * 4 + 1) (by simp only [List.length_set]; exact hs 1 (by decide)) (.int .i64 (r1 : Int))
            have h2 := row_set h1 (i := p * 4 + 2) (by simp only [List.length_set]; exact hs 2 (by decide)) (.int .i64 (r2 : Int))
            have h3 := row_set h2 (i := p * 4 + 3) (by simp only [List.length_set]; exact hs 3 (by decide)) (.int .i64 (r3 : Int))
            have e4 := rowCells_put L p r HPM.out
            have rv := RV.out
            unfold rowVals at rv
            simp only [List.cons.injEq, and_true, Value.int.injEq, true_and, Value.string.injEq] at rv
            rw [rv.1, rv.2.1, rv.2.2.1, rv.2.2.2] at e4
            rw [e4] at h3
            refine ⟨i + 1, by go_num, ?_, by omega, hid (by omega), hid ?_, hid (HBJ.out m), hid ((((U5.out.setCell (.inr (HBJ.out m g6 rfl)) _).setCell (.inr (HBJ.out m g6 rfl)) _).setCell (.inr (HBJ.out m g6 rfl)) _).setCell (.inr (HBJ.out m g6 rfl)) _)⟩
            · rw [HTK.out, cmax_snoc, ← HCM.out, HMX.out, HR2.out]
            · rw [e1, List.length_set, ← HML.out]
              exact h3
        · have hnew : newer x r = false := by
            cases q : newer x r with
            | false => rfl
            | true => exact absurd (ON.out.2 q) hod
          have HNW := hid hnew
          clear hnew
          go_simp
          go_wp2_with fail
          go_roundg (n - (i + 1))
          case measure => have := Hd.out; omega
          case rel =>
            have e1 : rmerge s.rows (k.take (i + 1)) = L := by
              rw [HTK.out, rmerge_snoc, ← HLL.out]
              unfold mstep
              rw [if_pos HQ.out.symm, ← HP.out, ← HX.out, if_neg (by rw [HNW.out]; decide)]
            refine ⟨i + 1, by go_num, ?_, by omega, hid (by omega), hid ?_, hid (HBJ.out m), U5⟩
            · rw [HTK.out, cmax_snoc, ← HCM.out, HMX.out, HR2.out]
            · rw [e1, ← HML.out]
              exact HL5.out
    · have hi' : ¬ (i : Int) < (n : Int) := by omega
      have ei : i = n := by omega
      have eL : L = rmerge s.rows k := by rw [HLL.out, ei, HN.out, List.take_length]
      have eC : cm = cmax s.count k := by rw [HCM.out, ei, HN.out, List.take_length]
      have HEL := hid eL
      have HEC := hid eC
      have hL60 : ¬ (60 : Int) < (L.length : Int) := by have := HWL.out.few; omega
      obtain ⟨m, hm⟩ : ∃ m, m = L.length := ⟨_, rfl⟩
      rw [← hm] at HL hL60 ⊢
      have HML := hid hm
      have ngF := hid (show ∀ x, (Value.slice a6 m k6).ownBlock = some x → x ≠ g from fun x hx e => by
        have h1 := HBJ.out _ x hx
        have h2 := K.blk_lt HG.out.blk
        omega)
      have BG := hid (HU.out.blk HG.out.blk (by simp))
      have c1 : wr.cell? ⟨g, 1, none⟩ = some (.int .i64 (s.count : Int)) := (K.blk_cell BG.out 1).trans rfl
      have c2 : wr.cell? ⟨g, 2, none⟩ = some v := (K.blk_cell BG.out 2).trans rfl
      have f1 := K.blk_frozen BG.out 1
      have f2 := K.blk_frozen BG.out 2
      clear hm eL eC hcm ei
      go_wp2_with fail
      go_ret
      have us : Upd [g] wr ((wr.setCell ⟨g, 2, none⟩ (.slice a6 m k6)).setCell ⟨g, 1, none⟩ (.int .i64 (cm : Int))) := ((Upd.refl [g] wr).setCell (.inl (by simp)) _).setCell (.inl (by simp)) _
      refine ⟨rfl, foot g (.slice a6 m k6), ⟨.slice a6 m k6, ⟨?_, ?_⟩, rfl⟩, fun x hx => ?_, ?_⟩
      · show _ = some (Obj.cells #[.int .i64 (s.me : Int), .int .i64 ((cmax s.count k : Nat) : Int), .slice a6 m k6] 56 (0, 0))
        rw [← HEC.out]
        exact (K.blk_set (K.blk_set BG.out 2 _) 1 _).trans rfl
      · show World.ownsRow _ 0 40 4 _ (rmerge s.rows k).length (rowCells (rmerge s.rows k))
        rw [← HEL.out, ← HML.out]
        exact own_upd HL.out us (fun x hx hs => ngF.out x hx (by simpa using hs))
      · rw [HF.out]
        rcases mem_foot.1 hx with rfl | hx
        · exact .inl (mem_foot.2 (.inl rfl))
        · exact .inr (HBJ.out _ x hx)
      · exact (HU.out.mono (T := F) (fun x hx => by cases hx)).trans us (fun x hx => .inl (by rw [HF.out]; simp at hx; subst hx; exact mem_foot.2 (.inl rfl)))
end Go.Proofs.YtbkhjmdklghbiaaDoor.Nm
