/- Names: slices.Insert of a row (turned from the Gossip's). -/
import Derived.Test.YtbkhjmdklghbiaaDoorNc
import Derived.BigRegion
import Derived.Deep.RegionWith
import Derived.StillTailTactics
import Derived.Shelf.Spec.SlicesInsert
import Derived.Lib.AppendZerosOnto
namespace Go.Proofs.YtbkhjmdklghbiaaDoor.Nm
open Go Go.RowKit Go.Proofs.YtbkhjmdklghbiaaDoor Go.Proofs.YtbkhjmdklghbiaaDoor.K Go.Proofs.YtbkhjmdklghbiaaDoor.M Go.Proofs.YtbkhjmdklghbiaaDoor.O

theorem info40 : (Tryd.prog.info? 40).map (fun i => (i.zero, i.size, i.bytes)) = some (some (.agg #[.string ⟨#[]⟩, .int .i64 0, .int .i64 0, .int .i64 0]), 4, 40) := by kernel_rfl
/-- 'copy' of elements of whatever size, within blocks of plain cells. -/
theorem run_copy3 {P : Program} (w : World) (dT sT ty elem : TypeId) (b o dLen dCap : Nat) (a : Addr) (sLen sCap sz : Nat) (cs : List Value)
    (hu : P.underlying dT = some (.slice elem)) (hs : (P.info? elem).map (·.size) = some sz) (hn : cs.length = Nat.min sLen dLen * sz)
    (hsrc : ∀ j v, cs[j]? = some v → w.cell? (a.add j) = some v) (hc : ∀ j, j < cs.length → (w.cell? ⟨b, o + j, none⟩).isSome = true) (hf : ∀ j, j < cs.length → w.frozen? ⟨b, o + j, none⟩ = false) (h1 : ∀ v ∈ cs, v.oneCell' = true) :
    (Builtin.copy_ #[dT, sT] ty #[.slice (some ⟨b, o, none⟩) dLen dCap, .slice (some a) sLen sCap]).run P w = .ok (goInt (Nat.min sLen dLen)) (w.setCells b o cs) := by
  have hl := run_loadCells_list (P := P) w a cs hsrc
  have hst := run_storeCells_cells (P := P) b o cs 0 w (by simpa using hc) (by simpa using hf) h1
  cases hq : P.info? elem with
  | none => simp [hq] at hs
  | some i =>
    have hi : i.size = sz := by simpa [hq] using hs
    simp [Builtin.copy_, run_underlying hu, Builtin.lenOf, Builtin.firstCells, sizeOf, typeInfo, hq, hi, ← hn, hl, hst]

/-- A row among others. -/
def insAt (l : List Row) (i : Nat) (r : Row) : List Row := l.take i ++ r :: l.drop i
theorem insAt_len (l : List Row) (i : Nat) (r : Row) (h : i ≤ l.length) : (insAt l i r).length = l.length + 1 := by simp [insAt]; omega
theorem rowCells_take : ∀ (l : List Row) (i : Nat), (rowCells l).take (i * 4) = rowCells (l.take i)
  | [], i => by simp [rowCells]
  | x :: l, 0 => by simp [rowCells]
  | x :: l, i + 1 => by
    have ih := rowCells_take l i
    simp only [rowCells, List.flatMap_cons, List.take_succ_cons] at ih ⊢
    rw [show (i + 1) * 4 = (rowVals x).length + i * 4 by simp [rowVals]; omega, List.take_length_add_append, ih]
theorem rowCells_drop : ∀ (l : List Row) (i : Nat), (rowCells l).drop (i * 4) = rowCells (l.drop i)
  | [], i => by simp [rowCells]
  | x :: l, 0 => by simp [rowCells]
  | x :: l, i + 1 => by
    have ih := rowCells_drop l i
    simp only [rowCells, List.flatMap_cons, List.drop_succ_cons] at ih ⊢
    rw [show (i + 1) * 4 = (rowVals x).length + i * 4 by simp [rowVals]; omega, List.drop_length_add_append, ih]
theorem rowCells_ins (l : List Row) (i : Nat) (r : Row) : rowCells (insAt l i r) = (rowCells l).take (i * 4) ++ rowVals r ++ (rowCells l).drop (i * 4) := by
  rw [rowCells_take, rowCells_drop]
  simp [insAt, rowCells]

theorem own_some {w : World} {v : Value} {l : List Row} (h : w.ownsRow 0 40 4 v l.length (rowCells l)) (h0 : 0 < l.length) :
    ∃ g k cur, v = .slice (some ⟨g, 0, none⟩) l.length k ∧ w.heap[g]? = some (.cells cur 40 (0, 0)) ∧ l.length ≤ k ∧ k ≤ 9223372036854775807 ∧ cur.size = k * 4 ∧ cur.toList.take (l.length * 4) = rowCells l := by
  rcases h.2 with ⟨-, e⟩ | ⟨g, cap, cur, e, -, hb, h1, h2, h3, h4⟩
  · omega
  · exact ⟨g, cap, cur, e, hb, h1, h2, h3, h4⟩

set_option maxHeartbeats 4000000 in
set_option maxRecDepth 100000 in
/-- At the end. -/
theorem insert_end {w : World} {v : Value} {l : List Row} (h : w.ownsRow 0 40 4 v l.length (rowCells l)) (h0 : 0 < l.length) (r : Row) (vb : Nat) (hv : w.heap[vb]? = some (.cells (rowVals r).toArray 40 (0, 0))) (h8 : l.length ≤ 100) :
    Calls Tryd.prog 27 #[v, .int .i64 (l.length : Int), .slice (some ⟨vb, 0, none⟩) 1 1] w fun e w' => ∃ v', e = .returned v' ∧ w'.ownsRow 0 40 4 v' (l.length + 1) (rowCells (insAt l l.length r)) ∧ Upd v.ownBlock.toList w w' ∧ (∀ k, v'.ownBlock = some k → v.ownBlock = some k ∨ w.heap.size ≤ k) := by
  obtain ⟨i40, hi, hz0, hz1, hz2⟩ := info_parts info40
  obtain ⟨g, k, cur, e1, -, l1, l2, -⟩ := own_some h h0
  have H := hid h
  obtain ⟨n, hn⟩ : ∃ n, n = l.length := ⟨_, rfl⟩
  obtain ⟨xs, hxs⟩ : ∃ x, x = rowCells l := ⟨_, rfl⟩
  obtain ⟨vs, hvs⟩ : ∃ x, x = rowVals r := ⟨_, rfl⟩
  rw [← hvs] at hv
  have HV := hid (show ∀ j u, vs[j]? = some u → w.cell? ((⟨vb, 0, none⟩ : Addr).add j) = some u from fun j u hj => by
    rw [show (⟨vb, 0, none⟩ : Addr).add j = ⟨vb, j, none⟩ by unfold Addr.add; split <;> simp_all]
    refine (K.blk_cell hv j).trans ?_; simpa using hj)
  have HGB := hid (K.blk_lt hv)
  rw [← hn, ← hxs] at H
  rw [← hn] at l1 h8 e1 ⊢
  have E1 := hid (show rowCells (insAt l n r) = xs ++ vs by rw [rowCells_ins, hn, ← rowCells_len, List.take_length, List.drop_length, ← hvs, hxs, List.append_nil])
  have HVL := hid (show vs.length = 1 * 4 by rw [hvs]; rfl)
  have HV1 := hid (show ∀ u ∈ vs, u.oneCell' = true by rw [hvs]; intro u hu; simp [rowVals] at hu; rcases hu with rfl | rfl | rfl | rfl <;> rfl)
  have HI := hid hi
  have HA := hid hz0
  have HB := hid hz1
  have HC := hid hz2
  subst e1
  clear h hv hn hxs hvs hi hz0 hz1 hz2 h0
  have RUN : ∀ k', Hid (k' = k) → Hid (Calls Tryd.prog 27 #[.slice (some ⟨g, 0, none⟩) n k', .int .i64 (n : Int), .slice (some ⟨vb, 0, none⟩) 1 1] w fun e w' => ∃ v', e = .returned v' ∧ w'.ownsRow 0 40 4 v' (n + 1) (rowCells (insAt l n r)) ∧ Upd (Value.slice (some ⟨g, 0, none⟩) n k').ownBlock.toList w w' ∧ (∀ j, v'.ownBlock = some j → (Value.slice (some ⟨g, 0, none⟩) n k').ownBlock = some j ∨ w.heap.size ≤ j)) := by
    intro k' hk
    by_cases e : k' = n
    · subst e
      show Calls _ _ _ _ _
      have H' : Hid (w.ownsRow 0 40 4 (Value.slice (some ⟨g, 0, none⟩) k' k') k' xs) := by rw [← hk.out] at H; exact H
      clear l1 l2 H
      go_enter Tryd.func27, Tryd.ntmps27
      go_wp2_with (at_builtin; refine wpList_append_own_at (w := w) rfl (.tmp 23) (.tmp 24) 31 rfl 0 40 i40 _ 4 40 Tryd.underlying31 HI.out HA.out HB.out HC.out rfl (by decide) (.slice (some ⟨g, 0, none⟩) k' k') k' xs rfl H'.out ⟨vb, 0, none⟩ 1 1 vs (by rfl) HVL.out HV.out HV1.out (by unfold maxLen; omega) (by omega) (by have := HGB.out; omega) ?_; intro v' w' ho hu _ hl; have HO := hid ho; have HU := hid hu; have HL := hid hl; obtain ⟨a', k9, e', -⟩ := own_view ho; subst e'; clear ho hu hl)
      go_ret
      refine ⟨_, rfl, by rw [E1.out]; exact HO.out, (Upd.refl _ w).grown HU.out (fun k hk => .inl (by simp [hk])), fun k hk => ?_⟩
      rcases HL.out with r4 | r4
      · left; rw [← r4]; exact hk
      · right; have hk2 := r4.symm.trans hk; simp at hk2; omega
    · show Calls _ _ _ _ _
      have H' : Hid (w.ownsRow 0 40 4 (Value.slice (some ⟨g, 0, none⟩) n k') n xs) := by rw [← hk.out] at H; exact H
      rw [← hk.out] at l1 l2
      clear H
      go_enter Tryd.func27, Tryd.ntmps27
      go_wp2_with (at_builtin; refine wpList_append_own_at (w := w) rfl (.tmp 23) (.tmp 24) 31 rfl 0 40 i40 _ 4 40 Tryd.underlying31 HI.out HA.out HB.out HC.out rfl (by decide) (.slice (some ⟨g, 0, none⟩) n k') n xs rfl H'.out ⟨vb, 0, none⟩ 1 1 vs (by rfl) HVL.out HV.out HV1.out (by unfold maxLen; omega) (by omega) (by have := HGB.out; omega) ?_; intro v' w' ho hu _ hl; have HO := hid ho; have HU := hid hu; have HL := hid hl; obtain ⟨a', k9, e', -⟩ := own_view ho; subst e'; clear ho hu hl)
      go_ret
      refine ⟨_, rfl, by rw [E1.out]; exact HO.out, (Upd.refl _ w).grown HU.out (fun k hk => .inl (by simp [hk])), fun k hk => ?_⟩
      rcases HL.out with r4 | r4
      · left; rw [← r4]; exact hk
      · right; have hk2 := r4.symm.trans hk; simp at hk2; omega
  exact RUN k (hid rfl)

theorem addl (g j : Nat) : (⟨g, 0, none⟩ : Addr).add j = ⟨g, j, none⟩ := by unfold Addr.add; split <;> simp_all
theorem splice_eq {xs vs ys : List Value} {i n : Nat} (hn : xs.length = n * 4) (hi : i ≤ n) (hv : vs.length = 4) (hy : ys.length = (n + 1) * 4) (hyx : ys.take (n * 4) = xs) :
    ((ys.take ((i + 1) * 4) ++ xs.drop (i * 4) ++ ys.drop ((i + 1) * 4 + (xs.drop (i * 4)).length)).take (i * 4) ++ vs ++ (ys.take ((i + 1) * 4) ++ xs.drop (i * 4) ++ ys.drop ((i + 1) * 4 + (xs.drop (i * 4)).length)).drop (i * 4 + vs.length)) = xs.take (i * 4) ++ vs ++ xs.drop (i * 4) := by
  have e1 : ys.drop ((i + 1) * 4 + (xs.drop (i * 4)).length) = [] := by
    apply List.drop_eq_nil_of_le; rw [List.length_drop]; omega
  rw [e1, List.append_nil, hv, show i * 4 + 4 = (i + 1) * 4 by omega]
  have l1 : (ys.take ((i + 1) * 4)).length = (i + 1) * 4 := by rw [List.length_take]; omega
  have e2 : (ys.take ((i + 1) * 4) ++ xs.drop (i * 4)).drop ((i + 1) * 4) = xs.drop (i * 4) := by
    rw [List.drop_append_of_le_length (by omega), List.drop_eq_nil_of_le (by omega)]; rfl
  have e3 : (ys.take ((i + 1) * 4) ++ xs.drop (i * 4)).take (i * 4) = xs.take (i * 4) := by
    rw [List.take_append_of_le_length (by omega), List.take_take, Nat.min_eq_left (by omega), ← hyx, List.take_take, Nat.min_eq_left (by omega)]
  rw [e2, e3]

set_option maxHeartbeats 4000000 in
set_option maxRecDepth 100000 in
/-- Ahead of others, where there is room. -/
theorem insert_room {w : World} {g k vb i n : Nat} {cur : Array Value} {xs vs : List Value} (hg : w.heap[g]? = some (.cells cur 40 (0, 0))) (hk : cur.size = k * 4) (hx : cur.toList.take (n * 4) = xs) (hxl : xs.length = n * 4) (hx1 : ∀ u ∈ xs, u.oneCell' = true) (hk63 : k ≤ 9223372036854775807)
    (hnk : n < k) (hi : i < n) (hne : vb ≠ g) (hv : w.heap[vb]? = some (.cells vs.toArray 40 (0, 0))) (hvl : vs.length = 4) (hv1 : ∀ u ∈ vs, u.oneCell' = true) :
    Calls Tryd.prog 27 #[.slice (some ⟨g, 0, none⟩) n k, .int .i64 (i : Int), .slice (some ⟨vb, 0, none⟩) 1 1] w fun e w' => e = .returned (.slice (some ⟨g, 0, none⟩) (n + 1) k) ∧ w'.ownsRow 0 40 4 (.slice (some ⟨g, 0, none⟩) (n + 1) k) (n + 1) (xs.take (i * 4) ++ vs ++ xs.drop (i * 4)) ∧ Upd [g] w w' := by
  obtain ⟨i40, hi40, hz0, hz1, hz2⟩ := info_parts info40
  have hsz : (Tryd.prog.info? 40).map (·.size) = some 4 := by rw [hi40]; simp [hz1]
  have hov : ∀ lb cb, (callFunc 33 #[.slice (some ⟨vb, 0, none⟩) 1 1, .slice (some ⟨g, (i + 1) * 4, none⟩) lb cb]).run Tryd.prog w = .ok (.value (.bool false)) w := fun lb cb => by
    rw [run_callFunc_extern Tryd.func33 (by kernel_rfl) (by kernel_rfl) (by kernel_rfl) (e := Extern.SlicesOverlaps.overlaps #[31, 31] #[4]) (by kernel_rfl),
      Lib.run_overlaps_apart w 31 4 40 Tryd.underlying31 4 (fun w => by simp [sizeOf, typeInfo, hi40, hz1]) ⟨vb, 0, none⟩ ⟨g, (i + 1) * 4, none⟩ 1 1 lb cb hne 40 40 4 (k * 4) (by simp [World.shape?, hv, hvl]) (by simp [World.shape?, hg, hk]) (by omega) (K.blk_frozen hv 0) (K.blk_frozen hv 4)]
    rfl
  have hcl : ∀ j, j < k * 4 → (w.cell? ⟨g, j, none⟩).isSome = true := fun j hj => by rw [K.blk_cell hg, Array.getElem?_eq_getElem (by omega)]; rfl
  have hfz : ∀ j, w.frozen? ⟨g, j, none⟩ = false := K.blk_frozen hg
  have hxs : ∀ j u, xs[j]? = some u → w.cell? ⟨g, j, none⟩ = some u := fun j u hj => by
    rw [K.blk_cell hg]
    have hjl : j < n * 4 := by rw [← hxl]; exact (List.getElem?_eq_some_iff.1 hj).1
    rw [← hx, List.getElem?_take, if_pos hjl] at hj
    simpa using hj
  have hvs : ∀ j u, vs[j]? = some u → w.cell? ⟨vb, j, none⟩ = some u := fun j u hj => by rw [K.blk_cell hv]; simpa using hj
  obtain ⟨ds, hds⟩ : ∃ x, x = xs.drop (i * 4) := ⟨_, rfl⟩
  have hdl : ds.length = (n - i) * 4 := by rw [hds, List.length_drop, hxl]; omega
  have hd1 : ∀ u ∈ ds, u.oneCell' = true := fun u hu => hx1 u (List.mem_of_mem_drop (hds ▸ hu))
  have hdg : ∀ j u, ds[j]? = some u → w.cell? ⟨g, i * 4 + j, none⟩ = some u := fun j u hj => hxs _ u (by rw [hds, List.getElem?_drop] at hj; exact hj)
  have hcp1 : ∀ ty dc sc, (Builtin.copy_ #[31, 31] ty #[.slice (some ⟨g, (i + 1) * 4, none⟩) (n - i) dc, .slice (some ⟨g, i * 4, none⟩) (n + 1 - i) sc]).run Tryd.prog w.drew = .ok (goInt (Nat.min (n + 1 - i) (n - i))) (w.drew.setCells g ((i + 1) * 4) ds) := fun ty dc sc =>
    run_copy3 w.drew _ _ ty 40 g ((i + 1) * 4) (n - i) dc ⟨g, i * 4, none⟩ (n + 1 - i) sc 4 ds Tryd.underlying31 hsz (by rw [hdl]; congr 1; simp only [Nat.min_def]; split <;> omega)
      (fun j v hj => by rw [Addr.add_lit]; exact hdg j v hj)
      (fun j hj => hcl _ (by omega)) (fun j hj => hfz _) hd1
  obtain ⟨W1, hW1⟩ : ∃ W1, W1 = w.drew.setCells g ((i + 1) * 4) ds := ⟨_, rfl⟩
  have hsp1 : ∀ j, j < (n + 1) * 4 → (W1.cell? ⟨g, j, none⟩).isSome = true := fun j hj => by
    rw [hW1]
    exact isSome_setCells g ds ((i + 1) * 4) w.drew (fun t ht => hcl ((i + 1) * 4 + t) (by omega)) j (hcl j (by omega))
  have hcp2 : ∀ (W : World), (∀ x, W.cell? x = W1.cell? x) → (∀ x, W.frozen? x = W1.frozen? x) → ∀ ty dc, (Builtin.copy_ #[31, 31] ty #[.slice (some ⟨g, i * 4, none⟩) (n + 1 - i) dc, .slice (some ⟨vb, 0, none⟩) 1 1]).run Tryd.prog W = .ok (goInt (Nat.min 1 (n + 1 - i))) (W.setCells g (i * 4) vs) := fun W hWc hWf ty dc =>
    run_copy3 W _ _ ty 40 g (i * 4) (n + 1 - i) dc ⟨vb, 0, none⟩ 1 1 4 vs Tryd.underlying31 hsz (by rw [hvl]; simp only [Nat.min_def]; split <;> omega)
      (fun j v hj => by
        rw [addl, hWc, hW1, World.cell?_setCells_out g _ _ _ _ (fun h _ => absurd h hne)]
        exact hvs j v hj)
      (fun j hj => by rw [hWc]; exact hsp1 _ (by omega)) (fun j hj => by rw [hWf, hW1, World.frozen?_setCells]; exact hfz _) hv1
  have hrow0 : w.drew.ownsRow 0 40 4 (.slice (some ⟨g, 0, none⟩) (n + 1) k) (n + 1) (cur.toList.take ((n + 1) * 4)) :=
    ⟨by simp; omega, .inr ⟨g, k, cur, rfl, Nat.zero_le _, hg, by omega, by unfold maxLen; omega, hk, rfl⟩⟩
  have hy : (cur.toList.take ((n + 1) * 4)).length = (n + 1) * 4 := by simp; omega
  have hrow1 := row_setCells ds ((i + 1) * 4) hrow0 (by rw [hy, hdl]; omega)
  rw [← hW1] at hrow1
  have hrow2 := row_setCells vs (i * 4) hrow1 (by rw [hvl]; simp only [List.length_append, List.length_take, List.length_drop, hdl, Array.length_toList, hk]; omega)
  have hU := hid (cells_upd g vs (i * 4) (cells_upd g ds ((i + 1) * 4) ((Upd.refl [g] w).drew) (.inl (by simp))) (.inl (by simp)))
  have hRES := hid (show (W1.setCells g (i * 4) vs).ownsRow 0 40 4 (.slice (some ⟨g, 0, none⟩) (n + 1) k) (n + 1) (xs.take (i * 4) ++ vs ++ xs.drop (i * 4)) by
    rw [hds] at hrow2
    rw [splice_eq hxl (by omega) hvl hy (by rw [List.take_take, Nat.min_eq_left (by omega)]; exact hx)] at hrow2
    exact hrow2)
  rw [← hW1] at hcp1 hU
  have hz2' : ¬ ((i : Int) = (n : Int)) := by omega
  have hw1 : IntKind.i64.wrap ((i : Int) + 1) = (i : Int) + 1 := IntWalk.i64_in _ (by omega)
  have hw2 : IntKind.i64.wrap ((n : Int) + 1) = (n : Int) + 1 := IntWalk.i64_in _ (by omega)
  have hb1 : (0 : Int) ≤ (i : Int) + 1 := by omega
  have htn : ((i : Int) + 1).toNat = i + 1 := by omega
  have htm : ((n : Int) + 1).toNat = n + 1 := by omega
  have hb2 : ¬ (k = i + 1) := by omega
  have hb4 : ¬ (k = i) := by omega
  have hb5 : (i : Int) ≤ (n : Int) + 1 := by omega
  have hin : i ≤ n := by omega
  have mixed : Tryd.prog.follows .mixedOrders = true := by kernel_rfl
  have HRES := hRES
  have HU := hU
  clear hrow0 hrow1 hrow2 hy hsp1 hdg hd1 hdl hvs hxs hcl hfz hv hg hx hx1 hU hRES
  go_enter Tryd.func27, Tryd.ntmps27
  go_wp2_with (simp only [hov])
  go_region_law_o (refine step_copy_runI rfl (.tmp 73) (.tmp 76) 31 31 rfl (.slice (some ⟨g, (i + 1) * 4, none⟩) (n - i) (k - (i + 1))) (.slice (some ⟨g, i * 4, none⟩) (n + 1 - i) (k - i)) (by simp [Act.eval, Act.put]) (by simp [Act.eval, Act.put]) (hcp1 3 (k - (i + 1)) (k - i)) ?_)
  go_wp2_with (at_builtin; refine wpList_copy_runI _ rfl _ _ 31 31 rfl _ _ rfl rfl (hcp2 _ (fun _ => rfl) (fun _ => rfl) _ _) ?_)
  go_ret
  exact ⟨rfl, by have q := HRES.out; rw [hW1, hds] at q; exact q, by have q := HU.out; rw [hW1, hds] at q; exact q⟩

theorem splice_new {xs vs zs : List Value} {i n : Nat} (hn : xs.length = n * 4) (hi : i ≤ n) (hv : vs.length = 4) (hz : zs.length = (n + 1 - i) * 4) :
    (((xs.take (i * 4) ++ zs).take (i * 4) ++ vs ++ (xs.take (i * 4) ++ zs).drop (i * 4 + vs.length)).take ((i + 1) * 4) ++ xs.drop (i * 4) ++ ((xs.take (i * 4) ++ zs).take (i * 4) ++ vs ++ (xs.take (i * 4) ++ zs).drop (i * 4 + vs.length)).drop ((i + 1) * 4 + (xs.drop (i * 4)).length)) = xs.take (i * 4) ++ vs ++ xs.drop (i * 4) := by
  have l1 : (xs.take (i * 4)).length = i * 4 := by rw [List.length_take]; omega
  have e1 : (xs.take (i * 4) ++ zs).take (i * 4) = xs.take (i * 4) := by rw [List.take_append_of_le_length (by omega), List.take_take, Nat.min_self]
  rw [e1]
  have e2 : (xs.take (i * 4) ++ vs ++ (xs.take (i * 4) ++ zs).drop (i * 4 + vs.length)).take ((i + 1) * 4) = xs.take (i * 4) ++ vs := by
    rw [List.take_append_of_le_length (by rw [List.length_append]; omega), List.take_of_length_le (by rw [List.length_append]; omega)]
  have e3 : (xs.take (i * 4) ++ vs ++ (xs.take (i * 4) ++ zs).drop (i * 4 + vs.length)).drop ((i + 1) * 4 + (xs.drop (i * 4)).length) = [] := by
    apply List.drop_eq_nil_of_le
    simp only [List.length_append, List.length_drop, l1, hv, hz, hn]
    omega
  rw [e2, e3, List.append_nil]

set_option maxHeartbeats 4000000 in
set_option maxRecDepth 100000 in
/-- Ahead of others, where there is no room: a new row. -/
theorem insert_grow {w : World} {g vb i n : Nat} {cur : Array Value} {xs vs : List Value} (hg : w.heap[g]? = some (.cells cur 40 (0, 0))) (hx : cur.toList.take (n * 4) = xs) (hxl : xs.length = n * 4) (hx1 : ∀ u ∈ xs, u.oneCell' = true) (hn8 : n ≤ 100)
    (hi : i < n) (hv : w.heap[vb]? = some (.cells vs.toArray 40 (0, 0))) (hvl : vs.length = 4) (hv1 : ∀ u ∈ vs, u.oneCell' = true) :
    Calls Tryd.prog 27 #[.slice (some ⟨g, 0, none⟩) n n, .int .i64 (i : Int), .slice (some ⟨vb, 0, none⟩) 1 1] w fun e w' => ∃ G, e = .returned (.slice (some ⟨w.heap.size, 0, none⟩) (n + 1) G) ∧ w'.ownsRow 0 40 4 (.slice (some ⟨w.heap.size, 0, none⟩) (n + 1) G) (n + 1) (xs.take (i * 4) ++ vs ++ xs.drop (i * 4)) ∧ Upd [] w w' := by
  obtain ⟨i40, hi40, hz0, hz1, hz2⟩ := info_parts info40
  have hsz : (Tryd.prog.info? 40).map (·.size) = some 4 := by rw [hi40]; simp [hz1]
  have hgw := K.blk_lt hg
  have hvw := K.blk_lt hv
  have hxs : ∀ j u, xs[j]? = some u → w.cell? ⟨g, j, none⟩ = some u := fun j u hj => by
    rw [K.blk_cell hg]
    have hjl : j < n * 4 := by rw [← hxl]; exact (List.getElem?_eq_some_iff.1 hj).1
    rw [← hx, List.getElem?_take, if_pos hjl] at hj
    simpa using hj
  have hvs : ∀ j u, vs[j]? = some u → w.cell? ⟨vb, j, none⟩ = some u := fun j u hj => by rw [K.blk_cell hv]; simpa using hj
  obtain ⟨ds, hds⟩ : ∃ x, x = xs.drop (i * 4) := ⟨_, rfl⟩
  have hdl : ds.length = (n - i) * 4 := by rw [hds, List.length_drop, hxl]; omega
  have hd1 : ∀ u ∈ ds, u.oneCell' = true := fun u hu => hx1 u (List.mem_of_mem_drop (hds ▸ hu))
  have hdg : ∀ j u, ds[j]? = some u → w.cell? ⟨g, i * 4 + j, none⟩ = some u := fun j u hj => hxs _ u (by rw [hds, List.getElem?_drop] at hj; exact hj)
  have hik : i + (n + 1 - i) = n + 1 := by omega
  have hold : (Builtin.firstCells i40.size i (.slice (some ⟨g, 0, none⟩) i n)).run Tryd.prog w.drew = .ok (xs.take (i * 4)).toArray w.drew := by
    rw [hz1]
    exact run_firstCells_some w.drew 4 i ⟨g, 0, none⟩ i n (xs.take (i * 4)) (by rw [List.length_take]; omega) (fun j v hj => by
      rw [addl]
      rw [List.getElem?_take] at hj
      split at hj
      · exact hxs j v hj
      · cases hj)
  have hrz : ∀ ty, (Builtin.append_ #[31, 3] ty #[.slice (some ⟨g, 0, none⟩) i n, .int .i64 ((n : Int) + 1 - (i : Int))]).run Tryd.prog w =
      .ok (.slice (some ⟨w.heap.size, 0, none⟩) (n + 1) (grownCap w (n + 1) n 40)) (w.drew.alloc (.cells ((xs.take (i * 4)).toArray ++ Builtin.zeroCells (Value.agg #[.string ⟨#[]⟩, .int .i64 0, .int .i64 0, .int .i64 0]).cells (n + 1 - i) ++ Builtin.zeroCells (Value.agg #[.string ⟨#[]⟩, .int .i64 0, .int .i64 0, .int .i64 0]).cells (grownCap w (n + 1) n 40 - (n + 1))) 40)) := fun ty => by
    have h := Lib.run_append_grow_zeros w 31 3 ty 40 i40 _ .i64 .i64 Tryd.underlying31 Tryd.underlying3 hi40 hz0 (some ⟨g, 0, none⟩) i n (xs.take (i * 4)) hold (n + 1 - i) (by omega) (by omega) (by omega) (by omega) (by rw [hz2]; omega) (by rw [hz2, hik]; exact growslice_fits (by omega) (by omega))
    rw [hik] at h
    rw [show (n : Int) + 1 - (i : Int) = ((n + 1 - i : Nat) : Int) by omega]
    exact h
  obtain ⟨G, hG⟩ : ∃ G, G = grownCap w (n + 1) n 40 := ⟨_, rfl⟩
  have hGn : n + 1 ≤ G := by rw [hG]; exact grownCap_ge w _ _ _
  have hG63 : G ≤ 9223372036854775807 := by
    have := grownCap_le_maxLen w (n + 1) n 40 (by unfold maxLen; omega)
    rw [← hG] at this
    unfold maxLen at this
    omega
  rw [← hG] at hrz
  have hZ : ∀ k, (Builtin.zeroCells (Value.agg #[.string ⟨#[]⟩, .int .i64 0, .int .i64 0, .int .i64 0]).cells k).size = k * 4 := fun k => by simp [Builtin.zeroCells, Value.cells]
  obtain ⟨Z1, hZ1⟩ : ∃ Z, Z = Builtin.zeroCells (Value.agg #[.string ⟨#[]⟩, .int .i64 0, .int .i64 0, .int .i64 0]).cells (n + 1 - i) := ⟨_, rfl⟩
  obtain ⟨Z2, hZ2⟩ : ∃ Z, Z = Builtin.zeroCells (Value.agg #[.string ⟨#[]⟩, .int .i64 0, .int .i64 0, .int .i64 0]).cells (G - (n + 1)) := ⟨_, rfl⟩
  have hZ1l : Z1.size = (n + 1 - i) * 4 := by rw [hZ1]; exact hZ _
  have hZ2l : Z2.size = (G - (n + 1)) * 4 := by rw [hZ2]; exact hZ _
  rw [← hZ1, ← hZ2] at hrz
  obtain ⟨ROW, hROW⟩ : ∃ ROW : Array Value, ROW = (xs.take (i * 4)).toArray ++ Z1 ++ Z2 := ⟨_, rfl⟩
  rw [← hROW] at hrz
  have hRl : ROW.size = G * 4 := by
    rw [hROW]
    simp only [Array.size_append, List.size_toArray, List.length_take, hZ1l, hZ2l]
    omega
  obtain ⟨H, hH⟩ : ∃ H, H = w.heap.size := ⟨_, rfl⟩
  obtain ⟨W1, hW1⟩ : ∃ W1, W1 = w.drew.alloc (.cells ROW 40) := ⟨_, rfl⟩
  have hnew : W1.heap[H]? = some (.cells ROW 40 (0, 0)) := by rw [hW1, hH]; exact K.blk_new w.drew _
  rw [← hW1, ← hH] at hrz
  rw [← hH]
  have hN : ∀ j, j < (n + 1) * 4 → (W1.cell? ⟨H, j, none⟩).isSome = true := fun j hj => by rw [K.blk_cell hnew, Array.getElem?_eq_getElem (by omega)]; rfl
  have hNf : ∀ j, W1.frozen? ⟨H, j, none⟩ = false := K.blk_frozen hnew
  have hgH : g ≠ H := by omega
  have hvH : vb ≠ H := by omega
  have hgW := K.blk_alloc (w := w.drew) hg (.cells ROW 40)
  rw [← hW1] at hgW
  have hOb : ∀ j v, w.cell? ⟨g, j, none⟩ = some v → W1.cell? ⟨g, j, none⟩ = some v := fun j v h => by rw [K.blk_cell hgW]; rw [K.blk_cell hg] at h; exact h
  have hvW := K.blk_alloc (w := w.drew) hv (.cells ROW 40)
  rw [← hW1] at hvW
  have hOv : ∀ j v, w.cell? ⟨vb, j, none⟩ = some v → W1.cell? ⟨vb, j, none⟩ = some v := fun j v h => by rw [K.blk_cell hvW]; rw [K.blk_cell hv] at h; exact h
  have hcpA : ∀ (W : World), (∀ x, W.cell? x = W1.cell? x) → (∀ x, W.frozen? x = W1.frozen? x) → ∀ ty dc, (Builtin.copy_ #[31, 31] ty #[.slice (some ⟨H, i * 4, none⟩) (n + 1 - i) dc, .slice (some ⟨vb, 0, none⟩) 1 1]).run Tryd.prog W = .ok (goInt (Nat.min 1 (n + 1 - i))) (W.setCells H (i * 4) vs) := fun W hWc hWf ty dc =>
    run_copy3 W _ _ ty 40 H (i * 4) (n + 1 - i) dc ⟨vb, 0, none⟩ 1 1 4 vs Tryd.underlying31 hsz (by rw [hvl]; simp only [Nat.min_def]; split <;> omega)
      (fun j v hj => by rw [addl, hWc]; exact hOv _ v (hvs j v hj))
      (fun j hj => by rw [hWc]; exact hN _ (by omega)) (fun j hj => by rw [hWf]; exact hNf _) hv1
  have hcpB : ∀ (W : World), (∀ x, W.cell? x = (W1.setCells H (i * 4) vs).cell? x) → (∀ x, W.frozen? x = (W1.setCells H (i * 4) vs).frozen? x) → ∀ ty dc sc, (Builtin.copy_ #[31, 31] ty #[.slice (some ⟨H, (i + 1) * 4, none⟩) (n - i) dc, .slice (some ⟨g, i * 4, none⟩) (n - i) sc]).run Tryd.prog W = .ok (goInt (Nat.min (n - i) (n - i))) (W.setCells H ((i + 1) * 4) ds) := fun W hWc hWf ty dc sc =>
    run_copy3 W _ _ ty 40 H ((i + 1) * 4) (n - i) dc ⟨g, i * 4, none⟩ (n - i) sc 4 ds Tryd.underlying31 hsz (by rw [hdl]; congr 1; simp only [Nat.min_def]; split <;> omega)
      (fun j v hj => by
        rw [Addr.add_lit, hWc, World.cell?_setCells_out _ _ _ _ _ (fun h _ => absurd h hgH)]
        exact hOb _ v (hdg j v hj))
      (fun j hj => by rw [hWc]; exact isSome_setCells H vs (i * 4) W1 (fun t ht => hN _ (by omega)) _ (hN _ (by omega)))
      (fun j hj => by rw [hWf, World.frozen?_setCells]; exact hNf _) hd1
  have hrow0 : W1.ownsRow 0 40 4 (.slice (some ⟨H, 0, none⟩) (n + 1) G) (n + 1) (xs.take (i * 4) ++ Z1.toList) :=
    ⟨by simp only [List.length_append, List.length_take, Array.length_toList, hZ1l]; omega, .inr ⟨H, G, ROW, rfl, Nat.zero_le _, hnew, hGn, by unfold maxLen; omega, hRl, by
      rw [hROW]
      simp only [Array.toList_append]
      rw [List.take_append_of_le_length (by simp only [List.length_append, List.length_take, Array.length_toList, hZ1l]; omega), List.take_of_length_le (by simp only [List.length_append, List.length_take, Array.length_toList, hZ1l]; omega)]⟩⟩
  have hrow1 := row_setCells vs (i * 4) hrow0 (by simp only [List.length_append, List.length_take, Array.length_toList, hZ1l]; omega)
  have hrow2 := row_setCells (w := (W1.setCells H (i * 4) vs).drew) ds ((i + 1) * 4) hrow1 (by simp only [List.length_append, List.length_take, List.length_drop, Array.length_toList, hZ1l, hdl, hvl]; omega)
  have HRES := hid (show ((W1.setCells H (i * 4) vs).drew.setCells H ((i + 1) * 4) ds).ownsRow 0 40 4 (.slice (some ⟨H, 0, none⟩) (n + 1) G) (n + 1) (xs.take (i * 4) ++ vs ++ xs.drop (i * 4)) by
    have q := hrow2
    rw [hds] at q ⊢
    rw [splice_new hxl (by omega) hvl (by rw [Array.length_toList]; exact hZ1l)] at q
    exact q)
  have HU := hid (show Upd [] w ((W1.setCells H (i * 4) vs).drew.setCells H ((i + 1) * 4) ds) by
    rw [hW1]
    exact cells_upd H ds ((i + 1) * 4) (cells_upd H vs (i * 4) (((Upd.refl [] w).drew).alloc _) (.inr (by omega))).drew (.inr (by omega)))
  have hW1h : W1.heap.size = H + 1 := by rw [hW1, hH]; simp [World.alloc]
  have hz2' : ¬ ((i : Int) = (n : Int)) := by omega
  have hz3 : (n : Int) < (n : Int) + 1 := by omega
  have hw1 : IntKind.i64.wrap ((i : Int) + 1) = (i : Int) + 1 := IntWalk.i64_in _ (by omega)
  have hw2 : IntKind.i64.wrap ((n : Int) + 1) = (n : Int) + 1 := IntWalk.i64_in _ (by omega)
  have hw3 : IntKind.i64.wrap ((n : Int) + 1 - (i : Int)) = (n : Int) + 1 - (i : Int) := IntWalk.i64_in _ (by omega)
  have hb1 : (0 : Int) ≤ (i : Int) + 1 := by omega
  have htn : ((i : Int) + 1).toNat = i + 1 := by omega
  have hb2 : ¬ (G = i) := by omega
  have hb3 : ¬ (G = i + 1) := by omega
  have hb4 : ¬ (n = i) := by omega
  have hb5 : (i : Int) ≤ (n : Int) + 1 := by omega
  have hb6 : (i : Int) ≤ (n : Int) := by omega
  have hin : i ≤ n := by omega
  have mixed : Tryd.prog.follows .mixedOrders = true := by kernel_rfl
  clear hW1h hW1 hH hds hrow0 hrow1 hrow2 hOv hOb hgW hvW hN hNf hnew hROW hRl hZ1l hZ2l hZ1 hZ2 hZ hdg hd1 hdl hvs hxs hv hg hx hx1 hold hG
  go_enter Tryd.func27, Tryd.ntmps27
  go_wp2_with (first
    | (at_builtin; refine Lib.wpList_append_run _ rfl _ _ _ _ rfl _ _ rfl rfl _ _ (hrz _) ?_)
    | (at_builtin; refine wpList_copy_runI _ rfl _ _ 31 31 rfl _ _ rfl rfl (hcpA _ (fun _ => rfl) (fun _ => rfl) _ _) ?_))
  go_region_law_o (refine step_copy_runI rfl (.tmp 50) (.tmp 53) 31 31 rfl (.slice (some ⟨H, (i + 1) * 4, none⟩) (n - i) (G - (i + 1))) (.slice (some ⟨g, i * 4, none⟩) (n - i) (n - i)) (by simp [Act.eval, Act.put]) (by simp [Act.eval, Act.put]) (hcpB ((W1.setCells H (i * 4) vs).drew) (fun _ => rfl) (fun _ => rfl) 3 (G - (i + 1)) (n - i)) ?_)
  go_wp2
  go_ret
  exact ⟨G, rfl, HRES.out, HU.out⟩

set_option maxHeartbeats 4000000 in
set_option maxRecDepth 100000 in
/-- The first. -/
theorem insert_zero {w : World} {v : Value} (h : w.ownsRow 0 40 4 v 0 []) (r : Row) (vb : Nat) (hv : w.heap[vb]? = some (.cells (rowVals r).toArray 40 (0, 0))) :
    Calls Tryd.prog 27 #[v, .int .i64 0, .slice (some ⟨vb, 0, none⟩) 1 1] w fun e w' => ∃ v', e = .returned v' ∧ w'.ownsRow 0 40 4 v' 1 (rowVals r) ∧ Upd v.ownBlock.toList w w' ∧ (∀ k, v'.ownBlock = some k → v.ownBlock = some k ∨ w.heap.size ≤ k) := by
  obtain ⟨i40, hi, hz0, hz1, hz2⟩ := info_parts info40
  have H := hid h
  obtain ⟨vs, hvs⟩ : ∃ x, x = rowVals r := ⟨_, rfl⟩
  rw [← hvs] at hv
  have HV := hid (show ∀ j u, vs[j]? = some u → w.cell? ((⟨vb, 0, none⟩ : Addr).add j) = some u from fun j u hj => by
    rw [show (⟨vb, 0, none⟩ : Addr).add j = ⟨vb, j, none⟩ by unfold Addr.add; split <;> simp_all]
    refine (K.blk_cell hv j).trans ?_; simpa using hj)
  have HGB := hid (K.blk_lt hv)
  have HVL := hid (show vs.length = 1 * 4 by rw [hvs]; rfl)
  have HV1 := hid (show ∀ u ∈ vs, u.oneCell' = true by rw [hvs]; exact rowVals_one r)
  rw [← hvs]
  have HI := hid hi
  have HA := hid hz0
  have HB := hid hz1
  have HC := hid hz2
  have hsh : v = .slice none 0 0 ∨ ∃ g k, v = .slice (some ⟨g, 0, none⟩) 0 k ∧ k ≤ 9223372036854775807 := by
    rcases h.2 with ⟨e, -⟩ | ⟨g, cap, cur, e, -, -, -, h2, -, -⟩
    · exact .inl e
    · exact .inr ⟨g, cap, e, h2⟩
  clear h hv hvs hi hz0 hz1 hz2
  rcases hsh with rfl | ⟨g, k, rfl, hk⟩
  · go_enter Tryd.func27, Tryd.ntmps27
    go_wp2_with (at_builtin; refine wpList_append_own_at (w := w) rfl (.tmp 23) (.tmp 24) 31 rfl 0 40 i40 _ 4 40 Tryd.underlying31 HI.out HA.out HB.out HC.out rfl (by decide) (.slice none 0 0) 0 [] rfl H.out ⟨vb, 0, none⟩ 1 1 vs (by rfl) HVL.out HV.out HV1.out (by unfold maxLen; omega) (by omega) (Nat.zero_le _) ?_; intro v' w' h1 h2 h3 h4; have HO := hid h1; have HU := hid h2; have HL := hid h4; clear h1 h2 h3 h4)
    go_ret
    refine ⟨_, rfl, by have q := HO.out; rw [List.nil_append, Nat.zero_add] at q; exact q, (Upd.refl _ w).grown HU.out (fun k hk => .inl (by simp [hk])), fun k hk => ?_⟩
    rcases HL.out with r4 | r4
    · left; rw [← r4]; exact hk
    · right; have hk2 := r4.symm.trans hk; simp at hk2; omega
  · by_cases e : k = 0
    · subst e
      go_enter Tryd.func27, Tryd.ntmps27
      go_wp2_with (at_builtin; refine wpList_append_own_at (w := w) rfl (.tmp 23) (.tmp 24) 31 rfl 0 40 i40 _ 4 40 Tryd.underlying31 HI.out HA.out HB.out HC.out rfl (by decide) (.slice (some ⟨g, 0, none⟩) 0 0) 0 [] rfl H.out ⟨vb, 0, none⟩ 1 1 vs (by rfl) HVL.out HV.out HV1.out (by unfold maxLen; omega) (by omega) (Nat.zero_le _) ?_; intro v' w' h1 h2 h3 h4; have HO := hid h1; have HU := hid h2; have HL := hid h4; clear h1 h2 h3 h4)
      go_ret
      refine ⟨_, rfl, by have q := HO.out; rw [List.nil_append, Nat.zero_add] at q; exact q, (Upd.refl _ w).grown HU.out (fun k hk => .inl (by simp [hk])), fun k hk => ?_⟩
      rcases HL.out with r4 | r4
      · left; rw [← r4]; exact hk
      · right; have hk2 := r4.symm.trans hk; simp at hk2; omega
    · go_enter Tryd.func27, Tryd.ntmps27
      go_wp2_with (at_builtin; refine wpList_append_own_at (w := w) rfl (.tmp 23) (.tmp 24) 31 rfl 0 40 i40 _ 4 40 Tryd.underlying31 HI.out HA.out HB.out HC.out rfl (by decide) (.slice (some ⟨g, 0, none⟩) 0 k) 0 [] rfl H.out ⟨vb, 0, none⟩ 1 1 vs (by rfl) HVL.out HV.out HV1.out (by unfold maxLen; omega) (by omega) (Nat.zero_le _) ?_; intro v' w' h1 h2 h3 h4; have HO := hid h1; have HU := hid h2; have HL := hid h4; clear h1 h2 h3 h4)
      go_ret
      refine ⟨_, rfl, by have q := HO.out; rw [List.nil_append, Nat.zero_add] at q; exact q, (Upd.refl _ w).grown HU.out (fun k hk => .inl (by simp [hk])), fun k hk => ?_⟩
      rcases HL.out with r4 | r4
      · left; rw [← r4]; exact hk
      · right; have hk2 := r4.symm.trans hk; simp at hk2; omega

/-- 'slices.Insert(s, i, r)', the row in a block of its own. -/
theorem insert_any {w : World} {v : Value} {l : List Row} (h : w.ownsRow 0 40 4 v l.length (rowCells l)) (r : Row) (vb : Nat) (hv : w.heap[vb]? = some (.cells (rowVals r).toArray 40 (0, 0))) (hne : v.ownBlock ≠ some vb) (i : Nat) (hi : i ≤ l.length) (h8 : l.length ≤ 100) :
    Calls Tryd.prog 27 #[v, .int .i64 (i : Int), .slice (some ⟨vb, 0, none⟩) 1 1] w fun e w' => ∃ v', e = .returned v' ∧ w'.ownsRow 0 40 4 v' (l.length + 1) (rowCells (insAt l i r)) ∧ Upd v.ownBlock.toList w w' ∧ (∀ k, v'.ownBlock = some k → v.ownBlock = some k ∨ w.heap.size ≤ k) := by
  by_cases h0 : 0 < l.length
  case neg =>
    have hl : l = [] := List.eq_nil_of_length_eq_zero (by omega)
    subst hl
    have hi0 : i = 0 := by simpa using hi
    subst hi0
    refine (insert_zero h r vb hv).mono ?_
    rintro e w' ⟨v', rfl, a1, a2, a3⟩
    exact ⟨v', rfl, by simpa [insAt, rowCells] using a1, a2, a3⟩
  by_cases e : i = l.length
  · subst e
    exact insert_end h h0 r vb hv h8
  · obtain ⟨g, k, cur, rfl, hb, l1, l2, l3, l4⟩ := own_some h h0
    have h1 := rowCells_one l
    have hvl : (rowVals r).length = 4 := rfl
    have hv1 : ∀ u ∈ rowVals r, u.oneCell' = true := fun u hu => by simp [rowVals] at hu; rcases hu with rfl | rfl | rfl | rfl <;> rfl
    have hn : (rowCells l).length = l.length * 4 := rowCells_len l
    rw [rowCells_ins]
    by_cases e2 : l.length = k
    · subst e2
      refine (insert_grow hb l4 hn h1 h8 (by omega) hv hvl hv1).mono ?_
      rintro e w' ⟨G, rfl, a1, a2⟩
      exact ⟨_, rfl, a1, a2.mono (fun s hs => by cases hs), fun k hk => .inr (by simp [Value.ownBlock] at hk; omega)⟩
    · refine (insert_room hb l3 l4 hn h1 l2 (by omega) (by omega) (fun q => hne (by rw [q]; rfl)) hv hvl hv1).mono ?_
      rintro e w' ⟨rfl, a1, a2⟩
      exact ⟨_, rfl, a1, a2.mono (fun s hs => .inl (by simpa [Value.ownBlock] using hs)), fun k hk => .inl (by simpa [Value.ownBlock] using hk)⟩
end Go.Proofs.YtbkhjmdklghbiaaDoor.Nm
