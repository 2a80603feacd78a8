/- The walks of slices.DeleteFunc at steps, and of PartOrder's closures. -/
import Derived.Test.YtnikkakeiajmgaaPn
namespace Go.Proofs.Ytnikkakeiajmgaa.Pa
open Go Go.RowKit Go.Proofs.Ytnikkakeiajmgaa Go.Proofs.Ytnikkakeiajmgaa.K Go.Proofs.Ytnikkakeiajmgaa.M Go.Proofs.Ytnikkakeiajmgaa.O Go.Proofs.Ytnikkakeiajmgaa.R Go.Proofs.Ytnikkakeiajmgaa.Pt

theorem cells_take : ∀ (L : List St) (i : Nat), (cellsOf L).take (i * 3) = cellsOf (L.take i)
  | [], i => by simp [cellsOf]
  | x :: L, 0 => by simp [cellsOf]
  | x :: L, i + 1 => by
    have ih := cells_take L i
    have hl : (stc x).length = 3 := rfl
    simp only [cellsOf, List.flatMap_cons, List.take_succ_cons] at ih ⊢
    rw [show (i + 1) * 3 = (stc x).length + i * 3 by rw [hl]; omega, List.take_length_add_append, ih]
theorem st_take (L : List St) (i : Nat) (hi : i < L.length) : L.take (i + 1) = L.take i ++ [L.getD i default] := by
  rw [List.take_add_one, List.getD_eq_getElem?_getD, List.getElem?_eq_getElem hi]
  rfl
theorem run_clear3 (w : World) (b o n c : Nat) (hn : 0 < n) (hc : ∀ j, j < n * 3 → (w.cell? ⟨b, o + j, none⟩).isSome = true) (hf : ∀ j, j < n * 3 → w.frozen? ⟨b, o + j, none⟩ = false) :
    ∃ zl : List Value, zl.length = n * 3 ∧ ∀ ty : TypeId, (Builtin.clear_ #[24] ty #[.slice (some ⟨b, o, none⟩) n c]).run Try.prog w = .ok (.tuple #[]) (w.setCells b o zl) := by
  obtain ⟨z, hz⟩ : ∃ z : Value, z = .agg #[.int .i64 0, .int .i64 0, .int .i64 0] := ⟨_, rfl⟩
  have hv : ∀ w, (zeroValue 29).run Try.prog w = .ok z w := fun w => by rw [hz]; kernel_rfl
  have hzc : z.cells = #[.int .i64 0, .int .i64 0, .int .i64 0] := by rw [hz]; rfl
  have hlen : (Builtin.zeroCells z.cells n).toList.length = n * 3 := by rw [hzc]; simp [Builtin.zeroCells]
  have hone : ∀ v ∈ (Builtin.zeroCells z.cells n).toList, v.oneCell' = true := fun v hv => by
    rw [hzc] at hv
    simp [Builtin.zeroCells] at hv
    obtain ⟨j, hj, rfl⟩ := hv
    have : j % 3 = 0 ∨ j % 3 = 1 ∨ j % 3 = 2 := by omega
    rcases this with q | q | q <;> simp [q] <;> rfl
  have hst := run_storeCells_cells (P := Try.prog) b o (Builtin.zeroCells z.cells n).toList 0 w (by simpa [hlen] using hc) (by simpa [hlen] using hf) hone
  simp only [Nat.add_zero] at hst
  refine ⟨(Builtin.zeroCells z.cells n).toList, hlen, fun ty => ?_⟩
  obtain ⟨m, rfl⟩ : ∃ m, n = m + 1 := ⟨n - 1, by omega⟩
  simp [Builtin.clear_, run_underlying Try.underlying24, hv, hst]

set_option maxHeartbeats 8000000 in
set_option maxRecDepth 100000 in
theorem index_first (fn P : Nat) (p : St → Bool) (a : Option Addr) (n c : Nat) (l : List St) (w : World) (hx : StepAt w a l) (hl : n = l.length) (hn : n ≤ 1000) (hp : Tells fn P p w) :
    Calls Try.prog 40 #[.slice a n c, .func (.func fn) #[] #[.pointer (some ⟨P, 0, none⟩)]] w fun e w' => ((e = .returned (.int .i64 (-1)) ∧ ∀ x ∈ l, p x = false) ∨ ∃ k : Nat, e = .returned (.int .i64 (k : Int)) ∧ k < n ∧ p (l.getD k default) = true ∧ ∀ x ∈ l.take k, p x = false) ∧ Upd [] w w' := by
  have HX := hid hx
  have HL := hid hl
  have HP := hid hp
  have hen := hp.enter
  clear hx hl hp
  go_enter Try.func40, Try.ntmps40
  go_wp2_with fail
  go_loopg [8] n (fun d v8 wr => ∃ (i : Nat), v8 = .int .i64 (i : Int) ∧ i ≤ n ∧ Hid (i + d = n) ∧ Hid (∀ x ∈ l.take i, p x = false) ∧ Hid (Upd [] w wr))
  case atStart => exact ⟨0, rfl, by omega, hid (by omega), hid (fun x hx => by simp at hx), hid (Upd.refl _ _)⟩
  case round =>
    obtain ⟨i, rfl, hin, Hi, HF, HU⟩ := hrel
    by_cases hi : i < n
    · have hi' : (i : Int) < (n : Int) := by omega
      have hix : i < l.length := by rw [← HL.out]; exact hi
      obtain ⟨g, rfl, c0, c1, c2⟩ := (HX.out.upd HU.out) i hix
      have HTK := hid (st_take l i hix)
      have g0 : l.getD i default = l[i]'hix := by rw [List.getD_eq_getElem?_getD, List.getElem?_eq_getElem hix]; rfl
      rw [← g0] at c0 c1 c2
      obtain ⟨t, ht⟩ : ∃ t : St, t = l.getD i default := ⟨_, rfl⟩
      rw [← ht] at c0 c1 c2 HTK
      have HTT := hid ht
      have CL := hid (HP.out.tells t wr HU.out)
      unfold stc at CL
      clear ht g0
      obtain ⟨t0, ht0⟩ : ∃ t0 : Nat, t0 = t.who.val := ⟨_, rfl⟩
      obtain ⟨t1, ht1⟩ : ∃ t1 : Nat, t1 = t.rd.val := ⟨_, rfl⟩
      obtain ⟨t2, ht2⟩ : ∃ t2 : Nat, t2 = t.wr.val := ⟨_, rfl⟩
      rw [← ht0] at c0 CL
      rw [← ht1] at c1 CL
      rw [← ht2] at c2 CL
      obtain ⟨q, hq⟩ : ∃ q, q = p t := ⟨_, rfl⟩
      rw [← hq] at CL
      have HQ := hid hq
      clear ht0 ht1 ht2 hq hix
      go_wp2_with fail
      refine CL.out.mono ?_
      rintro e w6 ⟨rfl, hu⟩
      have V := hid (HU.out.trans hu (by simp))
      clear hu CL
      cases q with
      | true =>
        go_wp2_with fail
        go_ret
        exact ⟨.inr ⟨i, rfl, hi, by rw [← HTT.out]; exact HQ.out.symm, HF.out⟩, V.out⟩
      | false =>
        go_wp2_with fail
        go_roundg (n - (i + 1))
        case measure => have := Hi.out; omega
        case rel =>
          refine ⟨i + 1, by go_num, by omega, hid (by omega), hid (fun x hx => ?_), hid V.out⟩
          rw [HTK.out] at hx
          rcases List.mem_append.1 hx with hx | hx
          · exact HF.out x hx
          · simp only [List.mem_singleton] at hx
            subst hx
            exact HQ.out.symm
    · obtain rfl : i = n := by omega
      go_wp2_with fail
      go_ret
      refine ⟨.inl ⟨rfl, fun x hx => HF.out x ?_⟩, HU.out⟩
      rw [HL.out, List.take_length]; exact hx

set_option maxHeartbeats 16000000 in
set_option maxRecDepth 100000 in
theorem delete_steps {w : World} {B P : Nat} {v : Value} {L : List St} (fn : Nat) (p : St → Bool) (hv : StepsOf w B v L) (hn8 : L.length ≤ 1000) (hT : ∀ w', Upd v.ownBlock.toList w w' → Tells fn P p w') :
    Calls Try.prog 19 #[v, .func (.func fn) #[] #[.pointer (some ⟨P, 0, none⟩)]] w fun e w' => ∃ v', e = .returned v' ∧ StepsOf w' B v' (L.filter (fun t => !p t)) ∧ Upd v.ownBlock.toList w w' := by
  obtain ⟨a, cap, ev, hcap, -⟩ := hv.view
  subst ev
  have IX := hid (index_first fn P p a L.length cap L w hv.at rfl hn8 (hT w (Upd.refl _ w)))
  have HV := hid hv
  have HT := hid hT
  have hen := (hT w (Upd.refl _ w)).enter
  obtain ⟨n, hn⟩ : ∃ n, n = L.length := ⟨_, rfl⟩
  rw [← hn] at IX HV hn8 hcap HT ⊢
  have HN := hid hn
  clear hv hT hn
  go_enter Try.func19, Try.ntmps19
  go_wp2_with fail
  refine IX.out.mono ?_
  rintro e w1 ⟨⟨rfl, hno⟩ | ⟨k, rfl, hk, hfk, hno⟩, hu⟩
  · have U1 := hid hu
    have HNO := hid hno
    clear hu hno IX
    go_wp2_with fail
    go_ret
    have e : L.filter (fun t => !p t) = L := List.filter_eq_self.2 (fun x hx => by rw [HNO.out x hx]; rfl)
    refine ⟨_, rfl, ?_, U1.out.mono (fun x hx => by cases hx)⟩
    rw [e]
    exact HV.out.new U1.out
  · have U1 := hid hu
    have hkl : k < L.length := by rw [← HN.out]; exact hk
    have HKF := hid (show L.take k = (L.take (k + 1)).filter (fun t => !p t) by
      rw [st_take L k hkl, List.filter_append, List.filter_cons_of_neg (by rw [hfk]; simp), List.filter_nil, List.append_nil]
      exact (List.filter_eq_self.2 (fun x hx => by rw [hno x hx]; rfl)).symm)
    obtain ⟨g, k', eg, hgB, -⟩ := HV.out.shape (by omega)
    simp only [Value.slice.injEq] at eg
    obtain ⟨rfl, -, -⟩ := eg
    have O1 := hid (HV.out.new hu)
    have nbb : ((k : Int) == -1) = false := by rw [beq_eq_false_iff_ne]; omega
    clear hu hfk hno hkl IX
    go_wp2_with fail
    go_loopg [5, 6] (n - (k + 1)) (fun d v5 v6 wr => ∃ (i j : Nat) (C : List St), v5 = .int .i64 (i : Int) ∧ v6 = .int .i64 (j : Int) ∧ i < j ∧ j ≤ n ∧ Hid (j + d = n) ∧ Hid (StepsOf wr B (.slice (some ⟨g, 0, none⟩) n cap) C) ∧ Hid (C.take i = (L.take j).filter (fun t => !p t)) ∧ Hid (C.drop j = L.drop j) ∧ Hid (n = C.length) ∧ Hid (Upd [g] w wr))
    case atStart =>
      exact ⟨k, k + 1, L, rfl, by go_num, by omega, by omega, hid (by omega), O1, HKF, hid rfl, HN, hid (U1.out.mono (fun x hx => by cases hx))⟩
    case round =>
      clear O1 HKF
      obtain ⟨i, j, C, rfl, rfl, hij, hjn, Hj, HO, HTK, HDr, HCl, HU⟩ := hrel
      by_cases hj : j < n
      · have hj' : (j : Int) < (n : Int) := by omega
        have hi' : (i : Int) < (n : Int) := by omega
        have hcj : C.getD j default = L.getD j default := by
          have := congrArg (fun l : List St => l.getD 0 default) HDr.out
          simpa [List.getD_eq_getElem?_getD, List.getElem?_drop] using this
        obtain ⟨c0, c1, c2⟩ := HO.out.cell (i := j) (by rw [← HCl.out]; exact hj)
        rw [hcj] at c0 c1 c2
        obtain ⟨t, ht⟩ : ∃ t, t = L.getD j default := ⟨_, rfl⟩
        rw [← ht] at c0 c1 c2
        have HTS := hid (show (L.take (j + 1)).filter (fun t => !p t) = (L.take j).filter (fun t => !p t) ++ [t].filter (fun t => !p t) by
          rw [st_take L j (by rw [← HN.out]; exact hj), List.filter_append, ht])
        have HJN := hid hj
        have HDR := hid (show C.drop (j + 1) = L.drop (j + 1) by rw [← List.drop_drop, ← List.drop_drop, HDr.out])
        have CLF := fun wz (u : Upd [] wr wz) => hid ((HT.out wz (HU.out.trans u (fun t ht => by cases ht))).tells t wz (Upd.refl [] wz))
        unfold stc at CLF
        clear ht hcj hj
        obtain ⟨t0, ht0⟩ : ∃ t0 : Nat, t0 = t.who.val := ⟨_, rfl⟩
        obtain ⟨t1, ht1⟩ : ∃ t1 : Nat, t1 = t.rd.val := ⟨_, rfl⟩
        obtain ⟨t2, ht2⟩ : ∃ t2 : Nat, t2 = t.wr.val := ⟨_, rfl⟩
        rw [← ht0, ← ht1, ← ht2] at CLF
        rw [← ht0] at c0
        rw [← ht1] at c1
        rw [← ht2] at c2
        have CT := hid (show t.who.val = t0 ∧ t.rd.val = t1 ∧ t.wr.val = t2 from ⟨ht0.symm, ht1.symm, ht2.symm⟩)
        obtain ⟨q, hq⟩ : ∃ q, q = p t := ⟨_, rfl⟩
        rw [← hq] at CLF
        have HQ := hid hq
        clear ht0 ht1 ht2 hq
        go_upto_region 8 with (fail)
        obtain ⟨wb, hwb⟩ : ∃ wb, wb = wr.alloc (.cells #[.int .i64 (t0 : Int), .int .i64 (t1 : Int), .int .i64 (t2 : Int)] 29) := ⟨_, rfl⟩
        obtain ⟨Y, hY⟩ : ∃ Y, Y = wr.heap.size := ⟨_, rfl⟩
        have ub : Upd [] wr wb := by rw [hwb]; exact (Upd.refl [] wr).alloc _
        have YB := hid (show wb.heap[Y]? = some (.cells #[.int .i64 (t0 : Int), .int .i64 (t1 : Int), .int .i64 (t2 : Int)] 29 (0, 0)) by rw [hwb, hY]; exact K.blk_new wr _)
        have y0 : wb.cell? ⟨Y, 0, none⟩ = some (.int .i64 (t0 : Int)) := K.blk_cell YB.out 0
        have y1 : wb.cell? ⟨Y, 1, none⟩ = some (.int .i64 (t1 : Int)) := K.blk_cell YB.out 1
        have y2 : wb.cell? ⟨Y, 2, none⟩ = some (.int .i64 (t2 : Int)) := K.blk_cell YB.out 2
        have CH := CLF wb ub
        have UB := hid (HU.out.trans ub (fun t ht => by cases ht))
        have HOB := hid (HO.out.new ub)
        rw [← hwb, ← hY]
        clear hwb hY ub CLF c0 c1 c2
        go_wp2_with fail
        refine CH.out.mono ?_
        rintro e w6 ⟨rfl, hu6⟩
        have U16 := hid (UB.out.trans hu6 (fun t ht => by cases ht))
        replace y0 := hu6.cell y0 (by simp)
        replace y1 := hu6.cell y1 (by simp)
        replace y2 := hu6.cell y2 (by simp)
        have HO6 := hid (HOB.out.new hu6)
        clear hu6 CH
        cases q with
        | true =>
          go_wp2_with fail
          go_roundg (n - (j + 1))
          case measure => have := Hj.out; have := HJN.out; omega
          case rel =>
            refine ⟨i, j + 1, C, rfl, by go_num, by omega, HJN.out, hid (Nat.add_sub_of_le HJN.out), HO6, hid ?_, HDR, HCl, U16⟩
            rw [HTS.out, HTK.out, List.filter_cons_of_neg (by rw [← HQ.out]; simp), List.filter_nil, List.append_nil]
        | false =>
          obtain ⟨e0, e1, e2⟩ := HO6.out.cell (i := i) (by have := HCl.out; omega)
          have f0 := HO6.out.fro (i * 3)
          have f1 := HO6.out.fro (i * 3 + 1)
          have f2 := HO6.out.fro (i * 3 + 2)
          go_wp2_with fail
          go_roundg (n - (j + 1))
          case measure => have := Hj.out; have := HJN.out; omega
          case rel =>
            have hci : i < C.length := by rw [← HCl.out]; omega
            have h3 := HO6.out.set HCl.out (i := i) (by omega) t
            rw [CT.out.1, CT.out.2.1, CT.out.2.2] at h3
            refine ⟨i + 1, j + 1, C.set i t, by go_num, by go_num, by omega, HJN.out, hid (Nat.add_sub_of_le HJN.out), hid h3, hid ?_, hid ?_, hid (by rw [List.length_set]; exact HCl.out), hid (((U16.out.setCell (.inl (by simp)) _).setCell (.inl (by simp)) _).setCell (.inl (by simp)) _)⟩
            · rw [HTS.out, List.filter_cons_of_pos (by rw [← HQ.out]; rfl), List.filter_nil, ← HTK.out, st_take _ i (by rw [List.length_set]; exact hci), List.take_set, List.set_eq_of_length_le (by rw [List.length_take]; omega)]
              congr 1
              simp [List.getD_eq_getElem?_getD, hci]
            · rw [List.drop_set_of_lt (by omega)]; exact HDR.out
      · have ej : j = n := by omega
        subst ej
        have hsz : ∀ z, z < (j - i) * 3 → (wr.cell? ⟨g, i * 3 + z, none⟩).isSome = true := fun z hz => by
          obtain ⟨c0, c1, c2⟩ := HO.out.cell (i := i + z / 3) (by rw [← HCl.out]; omega)
          have h4 : z % 3 = 0 ∨ z % 3 = 1 ∨ z % 3 = 2 := by omega
          rcases h4 with q | q | q
          · rw [show i * 3 + z = (i + z / 3) * 3 by omega, c0]; rfl
          · rw [show i * 3 + z = (i + z / 3) * 3 + 1 by omega, c1]; rfl
          · rw [show i * 3 + z = (i + z / 3) * 3 + 2 by omega, c2]; rfl
        obtain ⟨zl, hzl, hcl⟩ := run_clear3 wr g (i * 3) (j - i) (cap - i) (by omega) hsz (fun z _ => HO.out.fro _)
        have hO := HO.out
        unfold StepsOf at hO
        rw [← HCl.out] at hO
        have HR2 := hid (row_setCells zl (i * 3) hO (by rw [cellsOf_length, ← HCl.out, hzl]; omega))
        have HU2 := hid (cells_upd g zl (i * 3) HU.out (.inl (by simp)))
        obtain ⟨W2, hW2⟩ : ∃ W2, W2 = wr.setCells g (i * 3) zl := ⟨_, rfl⟩
        rw [← hW2] at hcl HR2 HU2
        have hic : ¬ cap = i := by omega
        clear hW2 hsz hj hO
        go_wp2_with fail
        go_ret
        have hfil : L.filter (fun t => !p t) = C.take i := by
          rw [HTK.out, List.take_of_length_le (by rw [← HN.out]; exact Nat.le_refl _)]
        have hlen : (C.take i).length = i := by rw [List.length_take, ← HCl.out]; omega
        have hrt := row_take (m := i) HR2.out (by omega)
        have e4 : ((cellsOf C).take (i * 3) ++ zl ++ (cellsOf C).drop (i * 3 + zl.length)).take (i * 3) = cellsOf (C.take i) := by
          rw [List.append_assoc, List.take_left' (by rw [List.length_take, cellsOf_length, ← HCl.out]; omega), cells_take]
        rw [e4] at hrt
        refine ⟨_, rfl, ?_, HU2.out⟩
        rw [hfil]
        unfold StepsOf
        rw [hlen]
        exact hrt
end Go.Proofs.Ytnikkakeiajmgaa.Pa
