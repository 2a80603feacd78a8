/- slices.DeleteFunc at actors. -/
import Derived.Test.YtgocminfohbedaaCl
namespace Go.Proofs.Ytgocminfohbedaa.Cy
open Go Go.RowKit Go.Proofs.Ytgocminfohbedaa Go.Proofs.Ytgocminfohbedaa.K Go.Proofs.Ytgocminfohbedaa.M Go.Proofs.Ytgocminfohbedaa.O Go.Proofs.Ytgocminfohbedaa.So Go.Proofs.Ytgocminfohbedaa.R

theorem kcells_put : ∀ (L : List (Know × Value)) (i : Nat) (p : Know × Value), i < L.length → ((((kcells L).set (i * 4) (.int .i64 p.1.ref)).set (i * 4 + 1) (.bool p.1.awake)).set (i * 4 + 2) (.bool p.1.root)).set (i * 4 + 3) p.2 = kcells (L.set i p)
  | [], i, _, h => by simp at h
  | x :: L, 0, _, _ => by simp [kcells, kvals]
  | x :: L, i + 1, p, h => by
    have ih := kcells_put L i p (by simpa using h)
    have hl : (kvals x).length = 4 := rfl
    simp only [kcells, List.flatMap_cons, List.set_cons_succ] at ih ⊢
    rw [show (i + 1) * 4 = (kvals x).length + i * 4 by rw [hl]; omega, List.set_append_right _ _ (by omega), Nat.add_sub_cancel_left]
    rw [show (kvals x).length + i * 4 + 1 = (kvals x).length + (i * 4 + 1) by omega, List.set_append_right _ _ (by omega), Nat.add_sub_cancel_left]
    rw [show (kvals x).length + i * 4 + 2 = (kvals x).length + (i * 4 + 2) by omega, List.set_append_right _ _ (by omega), Nat.add_sub_cancel_left]
    rw [show (kvals x).length + i * 4 + 3 = (kvals x).length + (i * 4 + 3) by omega, List.set_append_right _ _ (by omega), Nat.add_sub_cancel_left, ih]
theorem kcells_take : ∀ (L : List (Know × Value)) (i : Nat), (kcells L).take (i * 4) = kcells (L.take i)
  | [], i => by simp [kcells]
  | x :: L, 0 => by simp [kcells]
  | x :: L, i + 1 => by
    have ih := kcells_take L i
    have hl : (kvals x).length = 4 := rfl
    simp only [kcells, List.flatMap_cons, List.take_succ_cons] at ih ⊢
    rw [show (i + 1) * 4 = (kvals x).length + i * 4 by rw [hl]; omega, List.take_length_add_append, ih]
theorem kv_take (L : List (Know × Value)) (i : Nat) (hi : i < L.length) : L.take (i + 1) = L.take i ++ [L.getD i noKV] := by
  rw [List.take_add_one, List.getD_eq_getElem?_getD, List.getElem?_eq_getElem hi]
  rfl
theorem kv_filter_front {L : List (Know × Value)} {f : Know × Value → Bool} {k : Nat} (hk : k < L.length) (hf : f (L.getD k noKV) = false) (hno : ∀ j, j < k → f (L.getD j noKV) = true) : L.take k = (L.take (k + 1)).filter f := by
  rw [kv_take L k hk, List.filter_append, List.filter_cons_of_neg (by rw [hf]; simp), List.filter_nil, List.append_nil]
  refine (List.filter_eq_self.2 (fun p hp => ?_)).symm
  obtain ⟨j, hj, e⟩ := List.mem_iff_getElem.1 hp
  rw [List.length_take] at hj
  have := hno j (by omega)
  rw [List.getD_eq_getElem?_getD, List.getElem?_eq_getElem (by omega)] at this
  rw [List.getElem_take] at e
  rw [← e]; exact this
theorem RefsAt.sub {w : World} {L L' : List (Know × Value)} {M : Nat} (h : RefsAt w L M) (hs : ∀ p ∈ L', p ∈ L) : RefsAt w L' M := fun i hi => by
  have hm : L'.getD i noKV ∈ L' := by
    rw [List.getD_eq_getElem?_getD, List.getElem?_eq_getElem hi]; exact List.getElem_mem hi
  obtain ⟨j, hj, e⟩ := List.mem_iff_getElem.1 (hs _ hm)
  have := h j hj
  rw [List.getD_eq_getElem?_getD, List.getElem?_eq_getElem hj] at this
  rw [← e]; exact this
/-- Who isn't garbage. -/
def notIn (G : List Int) (p : Know × Value) : Bool := !decide (p.1.ref ∈ G)

set_option maxHeartbeats 16000000 in
set_option maxRecDepth 100000 in
theorem delete_know {w : World} {B B' X n M : Nat} {v vg : Value} {L : List (Know × Value)} {G : List Int} (hv : w.ownsRow B 31 4 v n (kcells L)) (hR : RefsAt w L M) (hn : n = L.length) (hn8 : n ≤ 1000) (hX : w.heap[X]? = some (.cells #[vg] 22 (0, 0))) (hG : w.ownsRow B' 3 1 vg G.length (ints G)) (h8 : G.length ≤ 1000) :
    Calls Try.prog 23 #[v, .func (.func 25) #[] #[.pointer (some ⟨X, 0, none⟩)]] w fun e w' => ∃ v', e = .returned v' ∧ w'.ownsRow B 31 4 v' (L.filter (notIn G)).length (kcells (L.filter (notIn G))) ∧ Upd v.ownBlock.toList w w' := by
  obtain ⟨a, cap, ev, hcap, -⟩ := own_view hv
  subst ev
  have HVV := hid (fun t (ht : t < n) => (show ∃ a m k, (L.getD t noKV).2 = .slice a m k from by
    obtain ⟨⟨ra, rk, e, -⟩, -⟩ := hR t (by rw [← hn]; exact ht)
    exact ⟨ra, _, rk, e⟩))
  have IX := hid (index25 (X := X) (fun t => decide ((L.getD t noKV).1.ref ∈ G)) (fun t ht wz u => clos25 (L.getD t noKV) (K.blk_cell (u.blk hX (by simp)) 0) (own_new hG u) (by omega) (HVV.out t ht)) hv hn hn8 HVV.out)
  have HV := hid hv
  have HN := hid hn
  have HX := hid hX
  have HG := hid hG
  have H8 := hid h8
  clear hv hR hn hX hG h8
  go_enter Try.func23, Try.ntmps23
  go_wp2_with fail
  refine IX.out.mono ?_
  rintro e w1 ⟨⟨rfl, hno⟩ | ⟨k, rfl, hk, hfk, hno⟩, hu⟩
  · have U1 := hid hu
    have HNO := hid hno
    clear hu hno IX
    go_wp2_with fail
    go_ret
    have e : L.filter (notIn G) = L := List.filter_eq_self.2 (fun p hp => by
      obtain ⟨j, hj, e⟩ := List.mem_iff_getElem.1 hp
      have := HNO.out j (by rw [HN.out]; exact hj)
      rw [List.getD_eq_getElem?_getD, List.getElem?_eq_getElem hj] at this
      unfold notIn
      rw [← e]
      simpa using this)
    refine ⟨_, rfl, ?_, U1.out.mono (fun x hx => by cases hx)⟩
    rw [e, ← HN.out]
    exact own_new HV.out U1.out
  · have U1 := hid hu
    have hkl : k < L.length := by rw [← HN.out]; exact hk
    have HKF := hid (kv_filter_front (f := notIn G) hkl (by unfold notIn; simpa using hfk) (fun j hj => by have := hno j hj; unfold notIn; simpa using this))
    obtain ⟨g, rfl, hgB⟩ : ∃ g, a = some ⟨g, 0, none⟩ ∧ B ≤ g := by
      obtain ⟨a', c', e, h1, h2, h3⟩ := own_view HV.out
      cases e
      obtain ⟨g, e, hb, _⟩ := h3 _ _ (kcells_get L k hkl).1
      exact ⟨g, e, hb⟩
    have O1 := hid (own_new HV.out hu)
    have nbb : ((k : Int) == -1) = false := by rw [beq_eq_false_iff_ne]; omega
    have hgX : Hid (X ≠ g) := hid (by
      obtain ⟨cur, hg⟩ := own_block HV.out g rfl
      exact blk_ne HX.out hg (by decide))
    have hgG : Hid (∀ z, vg.ownBlock = some z → z ≠ g) := hid (fun z hz => by
      obtain ⟨cur, hg⟩ := own_block HV.out g rfl
      exact own_cells_ne HG.out hg (by decide) z hz)
    clear hu hfk hno hkl IX
    go_wp2_with fail
    go_loopg [5, 6] (n - (k + 1)) (fun d v5 v6 wr => ∃ (i j : Nat) (C : List (Know × Value)), v5 = .int .i64 (i : Int) ∧ v6 = .int .i64 (j : Int) ∧ i < j ∧ j ≤ n ∧ Hid (j + d = n) ∧ Hid (wr.ownsRow B 31 4 (.slice (some ⟨g, 0, none⟩) n cap) n (kcells C)) ∧ Hid (C.take i = (L.take j).filter (notIn G)) ∧ Hid (C.drop j = L.drop j) ∧ Hid (C.length = n) ∧ Hid (Upd [g] w wr))
    case atStart =>
      exact ⟨k, k + 1, L, rfl, by go_num, by omega, by omega, hid (by omega), O1, HKF, hid rfl, hid HN.out.symm, hid (U1.out.mono (fun x hx => by cases hx))⟩
    case round =>
      clear O1 HKF
      obtain ⟨i, j, C, rfl, rfl, hij, hjn, Hj, HO, HT, HDr, HCl, HU⟩ := hrel
      have HC := hid (fun z (hz : z < n) => (show wr.cell? ⟨g, z * 4, none⟩ = some (.int .i64 (C.getD z noKV).1.ref) ∧ wr.cell? ⟨g, z * 4 + 1, none⟩ = some (.bool (C.getD z noKV).1.awake) ∧ wr.cell? ⟨g, z * 4 + 2, none⟩ = some (.bool (C.getD z noKV).1.root) ∧ wr.cell? ⟨g, z * 4 + 3, none⟩ = some (C.getD z noKV).2 from by
        obtain ⟨d0, d1, d2, d3⟩ := kcells_get C z (by rw [HCl.out]; exact hz)
        obtain ⟨a', c', e, _, _, hc⟩ := own_view HO.out
        cases e
        obtain ⟨g', e', _, c0, _⟩ := hc _ _ d0
        cases e'
        obtain ⟨g', e', _, c1, _⟩ := hc _ _ d1
        cases e'
        obtain ⟨g', e', _, c2, _⟩ := hc _ _ d2
        cases e'
        obtain ⟨g', e', _, c3, _⟩ := hc _ _ d3
        cases e'
        exact ⟨c0, c1, c2, c3⟩))
      have HGB := hid (own_block HO.out g rfl)
      by_cases hj : j < n
      · have hj' : (j : Int) < (n : Int) := by omega
        have hi' : (i : Int) < (n : Int) := by omega
        have hcj : C.getD j noKV = L.getD j noKV := by
          have := congrArg (fun l : List (Know × Value) => l.getD 0 noKV) HDr.out
          simpa [List.getD_eq_getElem?_getD, List.getElem?_drop] using this
        obtain ⟨c0, c1, c2, c3⟩ := HC.out j hj
        obtain ⟨pa, pm, pk, pe⟩ := HVV.out j hj
        rw [hcj] at c0 c1 c2 c3
        obtain ⟨⟨⟨x, aw, ro, rf⟩, pv⟩, hkv⟩ : ∃ kv, kv = L.getD j noKV := ⟨_, rfl⟩
        rw [← hkv] at c0 c1 c2 c3 pe
        simp only at c0 c1 c2 c3 pe
        subst pe
        have hts : (L.take (j + 1)).filter (notIn G) = (L.take j).filter (notIn G) ++ [(⟨x, aw, ro, rf⟩, .slice pa pm pk)].filter (notIn G) := by
          rw [kv_take L j (by rw [← HN.out]; exact hj), List.filter_append, hkv]
        have HTS := hid hts
        have HJN := hid hj
        have dr : C.drop (j + 1) = L.drop (j + 1) := by rw [← List.drop_drop, ← List.drop_drop, HDr.out]
        have HDR := hid dr
        clear hkv hts hcj dr hj
        go_upto_region 8 with (fail)
        obtain ⟨wb, hwb⟩ : ∃ wb, wb = wr.alloc (.cells #[.int .i64 x, .bool aw, .bool ro, .slice pa pm pk] 31) := ⟨_, rfl⟩
        obtain ⟨Y, hY⟩ : ∃ Y, Y = wr.heap.size := ⟨_, rfl⟩
        have ub : Upd [] wr wb := by rw [hwb]; exact (Upd.refl [] wr).alloc _
        have YB := hid (show wb.heap[Y]? = some (.cells #[.int .i64 x, .bool aw, .bool ro, .slice pa pm pk] 31 (0, 0)) by rw [hwb, hY]; exact K.blk_new wr _)
        have y0 : wb.cell? ⟨Y, 0, none⟩ = some (.int .i64 x) := K.blk_cell YB.out 0
        have y1 : wb.cell? ⟨Y, 1, none⟩ = some (.bool aw) := K.blk_cell YB.out 1
        have y2 : wb.cell? ⟨Y, 2, none⟩ = some (.bool ro) := K.blk_cell YB.out 2
        have y3 : wb.cell? ⟨Y, 3, none⟩ = some (.slice pa pm pk) := K.blk_cell YB.out 3
        have UB := hid (HU.out.trans ub (fun t ht => by cases ht))
        have CL := clos25 (X := X) (B := B') (v := vg) (G := G) (⟨x, aw, ro, rf⟩, .slice pa pm pk) (K.blk_cell (UB.out.blk HX.out (by simpa using hgX.out)) 0) (own_upd HG.out UB.out (fun z hz hs => hgG.out z hz (by simpa using hs))) (by have := H8.out; omega) ⟨pa, pm, pk, rfl⟩
        have CH : Hid (Calls Try.prog 25 #[.agg #[.int .i64 x, .bool aw, .bool ro, .slice pa pm pk], .pointer (some ⟨X, 0, none⟩)] wb fun e w' => e = .returned (.bool (decide (x ∈ G))) ∧ Upd [] wb w') := hid CL
        have HOB := hid (own_new HO.out ub)
        have UBB := hid ub
        rw [← hwb, ← hY]
        clear hwb hY ub CL c0 c1 c2 c3
        go_wp2_with fail
        refine CH.out.mono ?_
        rintro e w6 ⟨rfl, hu6⟩
        have U6 := hid hu6
        have U16 := hid (UB.out.trans hu6 (fun t ht => by cases ht))
        have UR6 := hid (UBB.out.trans hu6 (fun t ht => by cases ht))
        replace y0 := hu6.cell y0 (by simp)
        replace y1 := hu6.cell y1 (by simp)
        replace y2 := hu6.cell y2 (by simp)
        replace y3 := hu6.cell y3 (by simp)
        have HO6 := hid (own_new HOB.out hu6)
        clear hu6 CH
        by_cases hxg : x ∈ G
        · rw [decide_eq_true hxg]
          have HXG := hid hxg
          clear hxg
          go_wp2_with fail
          go_roundg (n - (j + 1))
          case measure => have := Hj.out; have := HJN.out; omega
          case rel =>
            refine ⟨i, j + 1, C, rfl, by go_num, by omega, HJN.out, hid (Nat.add_sub_of_le HJN.out), HO6, hid ?_, HDR, HCl, U16⟩
            rw [HTS.out, HT.out, List.filter_cons_of_neg (by unfold notIn; simp [HXG.out]), List.filter_nil, List.append_nil]
        · rw [decide_eq_false hxg]
          have HXG := hid hxg
          obtain ⟨e0, e1, e2, e3⟩ := HC.out i (by omega)
          replace e0 := UR6.out.cell e0 (by simp)
          replace e1 := UR6.out.cell e1 (by simp)
          replace e2 := UR6.out.cell e2 (by simp)
          replace e3 := UR6.out.cell e3 (by simp)
          obtain ⟨cur, hb⟩ := own_block HO6.out g rfl
          have f0 := K.blk_frozen hb (i * 4)
          have f1 := K.blk_frozen hb (i * 4 + 1)
          have f2 := K.blk_frozen hb (i * 4 + 2)
          have f3 := K.blk_frozen hb (i * 4 + 3)
          clear hxg hb
          go_wp2_with fail
          go_roundg (n - (j + 1))
          case measure => have := Hj.out; have := HJN.out; omega
          case rel =>
            have hci : i < C.length := by rw [HCl.out]; omega
            have hs : ∀ (z : Nat), z < 4 → i * 4 + z < (kcells C).length := fun z hz => by rw [kcells_len]; omega
            have h0 := row_set HO6.out (i := i * 4) (hs 0 (by decide)) (.int .i64 x)
            have h1 := row_set h0 (i := i * 4 + 1) (by simp only [List.length_set]; exact hs 1 (by decide)) (.bool aw)
            have h2 := row_set h1 (i := i * 4 + 2) (by simp only [List.length_set]; exact hs 2 (by decide)) (.bool ro)
            have h3 := row_set h2 (i := i * 4 + 3) (by simp only [List.length_set]; exact hs 3 (by decide)) (.slice pa pm pk)
            have e4 := kcells_put C i (⟨x, aw, ro, rf⟩, .slice pa pm pk) hci
            simp only at e4
            rw [e4] at h3
            refine ⟨i + 1, j + 1, C.set i (⟨x, aw, ro, rf⟩, .slice pa pm pk), by go_num, by go_num, by omega, HJN.out, hid (Nat.add_sub_of_le HJN.out), hid h3, hid ?_, hid ?_, hid (by rw [List.length_set]; exact HCl.out), hid ((((U16.out.setCell (.inl (by simp)) _).setCell (.inl (by simp)) _).setCell (.inl (by simp)) _).setCell (.inl (by simp)) _)⟩
            · rw [HTS.out, List.filter_cons_of_pos (by unfold notIn; simp [HXG.out]), List.filter_nil, ← HT.out, kv_take _ i (by rw [List.length_set]; exact hci), List.take_set, List.set_eq_of_length_le (by rw [List.length_take]; omega)]
              congr 1
              simp [List.getD_eq_getElem?_getD, hci]
            · rw [List.drop_set_of_lt (by omega)]; exact HDR.out
      · have ej : j = n := by omega
        subst ej
        obtain ⟨cur, hb⟩ := HGB.out
        have hsz : ∀ z, z < (j - i) * 4 → (wr.cell? ⟨g, i * 4 + z, none⟩).isSome = true := fun z hz => by
          obtain ⟨c0, c1, c2, c3⟩ := HC.out (i + z / 4) (by omega)
          have h4 : z % 4 = 0 ∨ z % 4 = 1 ∨ z % 4 = 2 ∨ z % 4 = 3 := by omega
          rcases h4 with q | q | q | q
          · rw [show i * 4 + z = (i + z / 4) * 4 by omega, c0]; rfl
          · rw [show i * 4 + z = (i + z / 4) * 4 + 1 by omega, c1]; rfl
          · rw [show i * 4 + z = (i + z / 4) * 4 + 2 by omega, c2]; rfl
          · rw [show i * 4 + z = (i + z / 4) * 4 + 3 by omega, c3]; rfl
        obtain ⟨zl, hzl, hcl⟩ := run_clear4 wr g (i * 4) (j - i) (cap - i) (by omega) hsz (fun z _ => K.blk_frozen hb _)
        have HR2 := hid (row_setCells zl (i * 4) HO.out (by rw [kcells_len, HCl.out, hzl]; omega))
        have HU2 := hid (cells_upd g zl (i * 4) HU.out (.inl (by simp)))
        obtain ⟨W2, hW2⟩ : ∃ W2, W2 = wr.setCells g (i * 4) zl := ⟨_, rfl⟩
        rw [← hW2] at hcl HR2 HU2
        have hic : ¬ cap = i := by omega
        clear hW2 hb hsz hj
        go_wp2_with fail
        go_ret
        have hfil : L.filter (notIn G) = C.take i := by
          rw [HT.out, List.take_of_length_le (by rw [← HN.out]; exact Nat.le_refl _)]
        have hlen : (C.take i).length = i := by rw [List.length_take, HCl.out]; omega
        have hrt := row_take (m := i) HR2.out (by omega)
        have e4 : ((kcells C).take (i * 4) ++ zl ++ (kcells C).drop (i * 4 + zl.length)).take (i * 4) = kcells (C.take i) := by
          rw [List.append_assoc, List.take_left' (by rw [List.length_take, kcells_len, HCl.out]; omega), kcells_take]
        rw [e4] at hrt
        refine ⟨_, rfl, ?_, HU2.out⟩
        rw [hfil, hlen]
        exact hrt
end Go.Proofs.Ytgocminfohbedaa.Cy
