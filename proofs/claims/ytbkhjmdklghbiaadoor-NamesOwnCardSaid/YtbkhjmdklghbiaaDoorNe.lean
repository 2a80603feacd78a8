/- Names: put, Set, Drop. -/
import Derived.Test.YtbkhjmdklghbiaaDoorNd
namespace Go.Proofs.YtbkhjmdklghbiaaDoor.Nm
open Go Go.RowKit Go.Proofs.YtbkhjmdklghbiaaDoor Go.Proofs.YtbkhjmdklghbiaaDoor.K Go.Proofs.YtbkhjmdklghbiaaDoor.M Go.Proofs.YtbkhjmdklghbiaaDoor.O

def rput (l : List Row) (r : Row) : List Row := if hasRow l r.name = true then l.set (posOf l r.name) r else insAt l (posOf l r.name) r
def gset (s : G) (t r : Nat) : G := ⟨s.me, s.count + 1, rput s.rows ⟨t, r, s.count + 1, s.me⟩⟩
def Fresh (w : World) (F F' : List Nat) : Prop := ∀ x ∈ F', x ∈ F ∨ w.heap.size ≤ x
theorem pos_le (l : List Row) (t : Nat) : posOf l t ≤ l.length := by unfold posOf; exact (List.takeWhile_sublist _).length_le

theorem rowCells_put : ∀ (L : List Row) (i : Nat) (p : Row), i < L.length → ((((rowCells L).set (i * 4) (.string (nmS p.name))).set (i * 4 + 1) (.int .i64 (p.ref : Int))).set (i * 4 + 2) (.int .i64 (p.count : Int))).set (i * 4 + 3) (.int .i64 (p.node : Int)) = rowCells (L.set i p)
  | [], i, _, h => by simp at h
  | x :: L, 0, _, _ => by simp [rowCells, rowVals]
  | x :: L, i + 1, p, h => by
    have ih := rowCells_put L i p (by simpa using h)
    have hl : (rowVals x).length = 4 := rfl
    simp only [rowCells, List.flatMap_cons, List.set_cons_succ] at ih ⊢
    rw [show (i + 1) * 4 = (rowVals x).length + i * 4 by rw [hl]; omega, List.set_append_right _ _ (by omega), Nat.add_sub_cancel_left]
    rw [show (rowVals x).length + i * 4 + 1 = (rowVals x).length + (i * 4 + 1) by omega, List.set_append_right _ _ (by omega), Nat.add_sub_cancel_left]
    rw [show (rowVals x).length + i * 4 + 2 = (rowVals x).length + (i * 4 + 2) by omega, List.set_append_right _ _ (by omega), Nat.add_sub_cancel_left]
    rw [show (rowVals x).length + i * 4 + 3 = (rowVals x).length + (i * 4 + 3) by omega, List.set_append_right _ _ (by omega), Nat.add_sub_cancel_left, ih]
set_option maxHeartbeats 8000000 in
set_option maxRecDepth 100000 in
theorem put_new {w : World} {F : List Nat} {g : Nat} {s : G} (h : IsG w F g s) (hw : WF s.rows) (t r : Nat) (ht : t < 7) (hc : s.count < 1099511627776) (hr : hasRow s.rows t = false) :
    Calls Tryd.prog 30 #[.pointer (some ⟨g, 0, none⟩), .string (nmS t), .int .i64 (r : Int)] w fun e w' => e = .returned (.int .i64 0) ∧ ∃ F', IsG w' F' g ⟨s.me, s.count + 1, insAt s.rows (posOf s.rows t) ⟨t, r, s.count + 1, s.me⟩⟩ ∧ Fresh w F F' ∧ Upd F w w' := by
  have FD := hid (find_any h hw t ht)
  obtain ⟨v, hg, hF⟩ := h
  have HFW := hid hw.few
  obtain ⟨p, hpp⟩ : ∃ p, p = posOf s.rows t := ⟨_, rfl⟩
  have HP := hid (show p ≤ s.rows.length by rw [hpp]; exact pos_le _ _)
  rw [hr, ← hpp] at FD
  rw [← hpp]
  obtain ⟨st, hst⟩ : ∃ st, st = nmS t := ⟨_, rfl⟩
  rw [← hst] at FD ⊢
  have HST := hid hst
  obtain ⟨me, hme⟩ : ∃ me, me = s.me := ⟨_, rfl⟩
  obtain ⟨ct, hct⟩ : ∃ ct, ct = s.count := ⟨_, rfl⟩
  obtain ⟨n, hn⟩ : ∃ n, n = s.rows.length := ⟨_, rfl⟩
  have HG := hid hg
  have HF := hid hF
  have HME := hid hme
  have HCT := hid hct
  have HN := hid hn
  rw [← hme, ← hct]
  rw [← hct] at hc
  clear hg hF hw hr hpp hst hme hct hn ht
  go_enter Tryd.func30, Tryd.ntmps30
  go_wp2_with fail
  refine FD.out.mono ?_
  rintro e w1 ⟨rfl, hu⟩
  have HU1 := hid hu
  have HG1 := hid (HG.out.new hu)
  obtain ⟨a, k, ev, -⟩ := own_view HG1.out.rows
  have c0 := HG1.out.cells.1
  have c1 := HG1.out.cells.2.1
  have c2 := HG1.out.cells.2.2.1
  have f1 := HG1.out.cells.2.2.2 1
  rw [← HME.out] at c0
  rw [← HCT.out] at c1
  rw [ev, ← HN.out] at c2
  rw [← HN.out] at ev
  have hn60 : ((n : Int) == 60) = false := by rw [beq_eq_false_iff_ne]; have := HN.out; have := HFW.out; omega
  have hct0 : ((ct : Int) == 1099511627776) = false := by rw [beq_eq_false_iff_ne]; omega
  clear hu FD
  go_upto_region 7 with (fail)
  obtain ⟨w2, hw2⟩ : ∃ w2, w2 = w1.setCell ⟨g, 1, none⟩ (.int .i64 ((ct : Int) + 1)) := ⟨_, rfl⟩
  obtain ⟨dt, hdt⟩ : ∃ dt : Nat, dt = ct + 1 := ⟨_, rfl⟩
  rw [show (ct : Int) + 1 = (dt : Int) by omega] at hw2 ⊢
  have HG2 := hid (show IsG0 w2 g ⟨me, dt, s.rows⟩ v from ⟨by
    rw [hw2, HME.out]
    exact (K.blk_set HG1.out.blk 1 _).trans rfl, by
    rw [hw2]
    exact own_upd HG1.out.rows ((Upd.refl [g] w1).setCell (.inl (by simp)) _) (fun x hx hs => HG1.out.vg (by rw [hx]; simpa using hs))⟩)
  have HU2 := hid (show Upd F w w2 by
    rw [hw2]
    exact (HU1.out.mono (T := F) (fun x hx => by cases hx)).setCell (.inl (by rw [HF.out]; exact mem_foot.2 (.inl rfl))) _)
  rw [← hw2]
  have HDT := hid hdt
  clear hw2 c0 c1 c2 f1 hct0 hn60 hdt
  have c0 := HG2.out.cells.1
  have c1 := HG2.out.cells.2.1
  have c2 := HG2.out.cells.2.2.1
  have f1 := HG2.out.cells.2.2.2 1
  simp only at c0 c1
  rw [ev] at c2
  have hgl : g < w2.heap.size := K.blk_lt HG2.out.blk
  go_region
  obtain ⟨R, hR⟩ : ∃ R, R = w2.heap.size := ⟨_, rfl⟩
  obtain ⟨w3, hw3⟩ : ∃ w3, w3 = (w2.alloc (.cells #[.string st, .int .i64 (r : Int), .int .i64 (dt : Int), .int .i64 (me : Int)] 40)).drew := ⟨_, rfl⟩
  have u3 := hid (show Upd [] w2 w3 by rw [hw3]; exact ((Upd.refl [] w2).alloc _).drew)
  have RB := hid (show w3.heap[R]? = some (.cells #[.string st, .int .i64 (r : Int), .int .i64 (dt : Int), .int .i64 (me : Int)] 40 (0, 0)) by rw [hw3, hR]; exact K.blk_new w2 _)
  have HG3 := hid (HG2.out.new u3.out)
  have HU3 := hid (HU2.out.trans u3.out (fun t ht => by cases ht))
  have RW := hid (show w.heap.size ≤ R by rw [hR]; exact HU2.out.size)
  rw [← hw3, ← hR]
  clear hw3 hR u3 c0 c1 c2 f1 hgl
  have KEEP := hid (show ∀ wz, Upd [] w3 wz → wz.cell? ⟨g, 2, none⟩ = some (.slice a n k) ∧ wz.cell? ⟨R, 0, none⟩ = some (.string st) ∧ wz.cell? ⟨R, 1, none⟩ = some (.int .i64 (r : Int)) ∧ wz.cell? ⟨R, 2, none⟩ = some (.int .i64 (dt : Int)) ∧ wz.cell? ⟨R, 3, none⟩ = some (.int .i64 (me : Int)) from fun wz u => by
    have hb := u.blk RB.out (by simp)
    have hc := u.cell HG3.out.cells.2.2.1 (by simp)
    rw [ev] at hc
    exact ⟨hc, K.blk_cell hb 0, K.blk_cell hb 1, K.blk_cell hb 2, K.blk_cell hb 3⟩)
  go_upto_region 10 with (fail)
  refine J.J_begin (fun wz => wz.cell? ⟨g, 2, none⟩ = some (.slice a n k) ∧ wz.cell? ⟨R, 0, none⟩ = some (.string st) ∧ wz.cell? ⟨R, 1, none⟩ = some (.int .i64 (r : Int)) ∧ wz.cell? ⟨R, 2, none⟩ = some (.int .i64 (dt : Int)) ∧ wz.cell? ⟨R, 3, none⟩ = some (.int .i64 (me : Int))) 11 (by kernel_rfl) ⟨by kernel_rfl, by kernel_rfl, by kernel_rfl⟩ (KEEP.out _ ((Upd.refl [] w3).drew)) (fun LAST HS => ?_)
  refine J.J_take (i := 0) (v := ?_) LAST (by rfl) (by decide) (by kernel_rfl) (by kernel_rfl) (by intro _ _ _ h; exact h) HS (Or.inl ⟨by rfl, ?_⟩) ?_
  rotate_left
  · intro w hSw; (try dsimp only at hSw); go_simp; try with_reducible rfl
  try simp only [Act.put, List.setIfInBounds_toArray, List.set_cons_zero, List.set_cons_succ]
  refine J.J_take (i := 1) (v := ?_) LAST (by rfl) (by decide) (by kernel_rfl) (by kernel_rfl) (by intro _ _ _ h; exact h) HS (Or.inl ⟨by rfl, ?_⟩) ?_
  rotate_left
  · intro w hSw; (try dsimp only at hSw); go_simp; try with_reducible rfl
  try simp only [Act.put, List.setIfInBounds_toArray, List.set_cons_zero, List.set_cons_succ]
  refine J.J_take (i := 2) (v := ?_) LAST (by rfl) (by decide) (by kernel_rfl) (by kernel_rfl) (by intro _ _ _ h; exact h) HS (Or.inl ⟨by rfl, ?_⟩) ?_
  rotate_left
  · intro w hSw; (try dsimp only at hSw); go_simp; try with_reducible rfl
  try simp only [Act.put, List.setIfInBounds_toArray, List.set_cons_zero, List.set_cons_succ]
  refine J.J_take (i := 3) (v := ?_) LAST (by rfl) (by decide) (by kernel_rfl) (by kernel_rfl) (by intro _ _ _ h; exact h) HS (Or.inl ⟨by rfl, ?_⟩) ?_
  rotate_left
  · intro w hSw; (try dsimp only at hSw); go_simp; try with_reducible rfl
  try simp only [Act.put, List.setIfInBounds_toArray, List.set_cons_zero, List.set_cons_succ]
  refine J.J_take (i := 4) (v := ?_) LAST (by rfl) (by decide) (by kernel_rfl) (by kernel_rfl) (by intro _ _ _ h; exact h) HS (Or.inl ⟨by rfl, ?_⟩) ?_
  rotate_left
  · intro w hSw; (try dsimp only at hSw); go_simp; try with_reducible rfl
  try simp only [Act.put, List.setIfInBounds_toArray, List.set_cons_zero, List.set_cons_succ]
  refine J.J_take (i := 5) (v := ?_) LAST (by rfl) (by decide) (by kernel_rfl) (by kernel_rfl) (by intro _ _ _ h; exact h) HS (Or.inl ⟨by rfl, ?_⟩) ?_
  rotate_left
  · intro w hSw; (try dsimp only at hSw); go_simp; try with_reducible rfl
  try simp only [Act.put, List.setIfInBounds_toArray, List.set_cons_zero, List.set_cons_succ]
  refine J.J_take (i := 6) (v := ?_) LAST (by rfl) (by decide) (by kernel_rfl) (by kernel_rfl) (by intro _ _ _ h; exact h) HS (Or.inl ⟨by rfl, ?_⟩) ?_
  rotate_left
  · intro w hSw; (try dsimp only at hSw); go_simp; try with_reducible rfl
  try simp only [Act.put, List.setIfInBounds_toArray, List.set_cons_zero, List.set_cons_succ]
  refine J.J_one (i := 7) (by rfl) (by decide) (by kernel_rfl) (fun KK hK => ?_)
  go_simp
  have ua := ((Upd.refl [] w3).alloc (.cells #[.string st, .int .i64 (r : Int), .int .i64 (dt : Int), .int .i64 (me : Int)] 40)).drew
  have U4 := hid (HU3.out.trans ua (fun t ht => by cases ht))
  have HS2 := KEEP.out _ ua
  refine hK.out _ _ HS2 ?_
  clear hK KK
  try simp only [List.setIfInBounds_toArray]
  refine J.J_one (i := 8) (by rfl) (by decide) (by kernel_rfl) (fun KK hK => ?_)
  go_simp
  have HG4 := hid (HG3.out.new ua)
  have hb2 := K.blk_new w3 (.cells #[.string st, .int .i64 (r : Int), .int .i64 (dt : Int), .int .i64 (me : Int)] 40)
  have CI := insert_any (w := (w3.alloc (.cells #[.string st, .int .i64 (r : Int), .int .i64 (dt : Int), .int .i64 (me : Int)] 40)).drew) HG4.out.rows ⟨t, r, dt, me⟩ w3.heap.size (by unfold rowVals; rw [← HST.out]; exact hb2) (fun q => by have := own_lt HG3.out.rows _ q; omega) p (by exact HP.out) (by have := HFW.out; show s.rows.length ≤ 100; omega)
  simp only at CI
  rw [ev, ← HN.out] at CI
  refine CI.mono ?_
  rintro e w5 ⟨v5, rfl, ho, hu, hf⟩
  obtain ⟨a5, k5, e5, -⟩ := own_view ho
  subst e5
  have HO := hid ho
  have HU5 := hid hu
  have HF5 := hid hf
  clear ho hu hf CI hb2 ua
  go_wp2_with fail
  have gn : g ∉ (Value.slice a n k).ownBlock.toList := fun hg => HG4.out.vg (by rw [ev]; simpa using hg)
  have b5 := hid (HU5.out.blk HG4.out.blk gn)
  have Rn : R ∉ (Value.slice a n k).ownBlock.toList := fun hg => by
    have h1 := own_lt HG.out.rows R (by rw [ev]; simpa using hg)
    have := RW.out
    omega
  have r5 := hid (HU5.out.blk (K.blk_alloc (w := w3) RB.out _) Rn)
  have HS3 : w5.cell? ⟨g, 2, none⟩ = some (.slice a n k) ∧ w5.cell? ⟨R, 0, none⟩ = some (.string st) ∧ w5.cell? ⟨R, 1, none⟩ = some (.int .i64 (r : Int)) ∧ w5.cell? ⟨R, 2, none⟩ = some (.int .i64 (dt : Int)) ∧ w5.cell? ⟨R, 3, none⟩ = some (.int .i64 (me : Int)) := ⟨by have h := K.blk_cell b5.out 2; rw [ev] at h; exact h, K.blk_cell r5.out 0, K.blk_cell r5.out 1, K.blk_cell r5.out 2, K.blk_cell r5.out 3⟩
  refine hK.out _ _ HS3 ?_
  clear hK KK HS2 HS
  try simp only [List.setIfInBounds_toArray]
  refine J.J_take (i := 9) (v := ?_) LAST (by rfl) (by decide) (by kernel_rfl) (by kernel_rfl) (by intro _ _ _ h; exact h) HS3 (Or.inl ⟨by rfl, ?_⟩) ?_
  rotate_left
  · intro w hSw; (try dsimp only at hSw); go_simp; try with_reducible rfl
  try simp only [Act.put, List.setIfInBounds_toArray, List.set_cons_zero, List.set_cons_succ]
  refine J.J_take (i := 10) (v := ?_) LAST (by rfl) (by decide) (by kernel_rfl) (by kernel_rfl) (by intro _ _ _ h; exact h) HS3 (Or.inl ⟨by rfl, ?_⟩) ?_
  rotate_left
  · intro w hSw; (try dsimp only at hSw); go_simp; try with_reducible rfl
  try simp only [Act.put, List.setIfInBounds_toArray, List.set_cons_zero, List.set_cons_succ]
  refine J.J_last (by rfl) (by kernel_rfl) (by kernel_rfl) ?_
  have cz := HS3.1
  have fz := K.blk_frozen b5.out 2
  go_simp
  go_wp2_with fail
  go_ret
  have us : Upd [g] w5 (w5.setCell ⟨g, 2, none⟩ (.slice a5 (n + 1) k5)) := (Upd.refl _ w5).setCell (.inl (by simp)) _
  have gv5 : ∀ x, (Value.slice a5 (n + 1) k5).ownBlock = some x → x ≠ g := own_cells_ne HO.out b5.out (by decide)
  refine ⟨rfl, foot g (.slice a5 (n + 1) k5), ⟨.slice a5 (n + 1) k5, ⟨?_, ?_⟩, rfl⟩, fun x hx => ?_, ?_⟩
  · show _ = some (Obj.cells #[.int .i64 (me : Int), .int .i64 ((ct + 1 : Nat) : Int), .slice a5 (n + 1) k5] 56 (0, 0))
    rw [← HDT.out]
    exact (K.blk_set b5.out 2 _).trans rfl
  · show World.ownsRow _ 0 40 4 _ (insAt s.rows p ⟨t, r, ct + 1, me⟩).length _
    rw [insAt_len _ _ _ HP.out, ← HN.out, ← HDT.out]
    exact own_upd HO.out us (fun x hx hs => gv5 x hx (by simpa using hs))
  · rw [HF.out]
    rcases mem_foot.1 hx with rfl | hx
    · exact .inl (mem_foot.2 (.inl rfl))
    · rcases HF5.out x hx with q | q
      · exact .inl (mem_foot.2 (.inr (by rw [ev]; exact q)))
      · exact .inr (Nat.le_trans U4.out.size q)
  · exact (U4.out.trans HU5.out (fun x hx => .inl (by rw [HF.out]; exact mem_foot.2 (.inr (by rw [ev]; simpa using hx))))).trans us (fun x hx => .inl (by rw [HF.out]; simp at hx; subst hx; exact mem_foot.2 (.inl rfl)))
set_option maxHeartbeats 8000000 in
set_option maxRecDepth 100000 in
theorem put_old {w : World} {F : List Nat} {g : Nat} {s : G} (h : IsG w F g s) (hw : WF s.rows) (t r : Nat) (ht : t < 7) (hc : s.count < 1099511627776) (hr : hasRow s.rows t = true) :
    Calls Tryd.prog 30 #[.pointer (some ⟨g, 0, none⟩), .string (nmS t), .int .i64 (r : Int)] w fun e w' => e = .returned (.int .i64 0) ∧ ∃ F', IsG w' F' g ⟨s.me, s.count + 1, s.rows.set (posOf s.rows t) ⟨t, r, s.count + 1, s.me⟩⟩ ∧ Fresh w F F' ∧ Upd F w w' := by
  have FD := hid (find_any h hw t ht)
  obtain ⟨v, hg, hF⟩ := h
  have HFW := hid hw.few
  obtain ⟨p, hpp⟩ : ∃ p, p = posOf s.rows t := ⟨_, rfl⟩
  have HP := hid (show p < s.rows.length by rw [hpp]; exact (has_lt hr).1)
  rw [hr, ← hpp] at FD
  rw [← hpp]
  obtain ⟨st, hst⟩ : ∃ st, st = nmS t := ⟨_, rfl⟩
  rw [← hst] at FD ⊢
  have HST := hid hst
  obtain ⟨me, hme⟩ : ∃ me, me = s.me := ⟨_, rfl⟩
  obtain ⟨ct, hct⟩ : ∃ ct, ct = s.count := ⟨_, rfl⟩
  obtain ⟨n, hn⟩ : ∃ n, n = s.rows.length := ⟨_, rfl⟩
  have HG := hid hg
  have HF := hid hF
  have HME := hid hme
  have HCT := hid hct
  have HN := hid hn
  rw [← hme, ← hct]
  rw [← hct] at hc
  clear hg hF hw hr hpp hst hme hct hn ht
  go_enter Tryd.func30, Tryd.ntmps30
  go_wp2_with fail
  refine FD.out.mono ?_
  rintro e w1 ⟨rfl, hu⟩
  have HU1 := hid hu
  have HG1 := hid (HG.out.new hu)
  obtain ⟨a, k, ev, -⟩ := own_view HG1.out.rows
  have c0 := HG1.out.cells.1
  have c1 := HG1.out.cells.2.1
  have c2 := HG1.out.cells.2.2.1
  have f1 := HG1.out.cells.2.2.2 1
  rw [← HME.out] at c0
  rw [← HCT.out] at c1
  rw [ev, ← HN.out] at c2
  rw [← HN.out] at ev
  have hct0 : ((ct : Int) == 1099511627776) = false := by rw [beq_eq_false_iff_ne]; omega
  clear hu FD
  go_upto_region 7 with (fail)
  obtain ⟨w2, hw2⟩ : ∃ w2, w2 = w1.setCell ⟨g, 1, none⟩ (.int .i64 ((ct : Int) + 1)) := ⟨_, rfl⟩
  obtain ⟨dt, hdt⟩ : ∃ dt : Nat, dt = ct + 1 := ⟨_, rfl⟩
  rw [show (ct : Int) + 1 = (dt : Int) by omega] at hw2 ⊢
  have HG2 := hid (show IsG0 w2 g ⟨me, dt, s.rows⟩ v from ⟨by
    rw [hw2, HME.out]
    exact (K.blk_set HG1.out.blk 1 _).trans rfl, by
    rw [hw2]
    exact own_upd HG1.out.rows ((Upd.refl [g] w1).setCell (.inl (by simp)) _) (fun x hx hs => HG1.out.vg (by rw [hx]; simpa using hs))⟩)
  have HU2 := hid (show Upd F w w2 by
    rw [hw2]
    exact (HU1.out.mono (T := F) (fun x hx => by cases hx)).setCell (.inl (by rw [HF.out]; exact mem_foot.2 (.inl rfl))) _)
  rw [← hw2]
  have HDT := hid hdt
  clear hw2 c0 c1 c2 f1 hct0 hdt
  have c0 := HG2.out.cells.1
  have c1 := HG2.out.cells.2.1
  have c2 := HG2.out.cells.2.2.1
  have f1 := HG2.out.cells.2.2.2 1
  simp only at c0 c1
  rw [ev] at c2
  have hgl : g < w2.heap.size := K.blk_lt HG2.out.blk
  go_region
  obtain ⟨R, hR⟩ : ∃ R, R = w2.heap.size := ⟨_, rfl⟩
  obtain ⟨w3, hw3⟩ : ∃ w3, w3 = (w2.alloc (.cells #[.string st, .int .i64 (r : Int), .int .i64 (dt : Int), .int .i64 (me : Int)] 40)).drew := ⟨_, rfl⟩
  have u3 := hid (show Upd [] w2 w3 by rw [hw3]; exact ((Upd.refl [] w2).alloc _).drew)
  have RB := hid (show w3.heap[R]? = some (.cells #[.string st, .int .i64 (r : Int), .int .i64 (dt : Int), .int .i64 (me : Int)] 40 (0, 0)) by rw [hw3, hR]; exact K.blk_new w2 _)
  have HG3 := hid (HG2.out.new u3.out)
  have HU3 := hid (HU2.out.trans u3.out (fun t ht => by cases ht))
  have RW := hid (show w.heap.size ≤ R by rw [hR]; exact HU2.out.size)
  rw [← hw3, ← hR]
  clear hw3 hR u3 c0 c1 c2 f1 hgl
  have hpn : p < n := by rw [HN.out]; exact HP.out
  have hpn' : (p : Int) < (n : Int) := by omega
  have HR3 := HG3.out.rows
  rw [ev] at HR3
  simp only at HR3
  rw [← HN.out] at HR3
  have HRO := hid HR3
  obtain ⟨rg, q, -, -, -, -⟩ := rowAt_own (B := 0) (n := n) (k := k) (a := a) (l := s.rows) (by rw [← HN.out]; exact HR3) p HP.out
  subst q
  have hgc := HG3.out.cells.2.2.1
  rw [ev] at hgc
  have r0 : w3.cell? ⟨R, 0, none⟩ = some (.string st) := K.blk_cell RB.out 0
  have r1 : w3.cell? ⟨R, 1, none⟩ = some (.int .i64 (r : Int)) := K.blk_cell RB.out 1
  have r2 : w3.cell? ⟨R, 2, none⟩ = some (.int .i64 (dt : Int)) := K.blk_cell RB.out 2
  have r3 : w3.cell? ⟨R, 3, none⟩ = some (.int .i64 (me : Int)) := K.blk_cell RB.out 3
  obtain ⟨e0, e1, e2, e3⟩ : w3.cell? ⟨rg, p * 4, none⟩ = some (.string (nmS (s.rows.getD p noRow).name)) ∧ w3.cell? ⟨rg, p * 4 + 1, none⟩ = some (.int .i64 ((s.rows.getD p noRow).ref : Int)) ∧ w3.cell? ⟨rg, p * 4 + 2, none⟩ = some (.int .i64 ((s.rows.getD p noRow).count : Int)) ∧ w3.cell? ⟨rg, p * 4 + 3, none⟩ = some (.int .i64 ((s.rows.getD p noRow).node : Int)) := by
    obtain ⟨g', e, c0, c1, c2, c3⟩ := rowAt_own (B := 0) (n := n) (k := k) (a := some ⟨rg, 0, none⟩) (l := s.rows) (by rw [← HN.out]; exact HR3) p HP.out
    cases e
    exact ⟨c0, c1, c2, c3⟩
  have hrgb := own_block HRO.out rg rfl
  have f0 : ∀ j, w3.frozen? ⟨rg, j, none⟩ = false := fun j => by obtain ⟨cur, hb⟩ := hrgb; exact K.blk_frozen hb j
  have f00 := f0 (p * 4)
  have f01 := f0 (p * 4 + 1)
  have f02 := f0 (p * 4 + 2)
  have f03 := f0 (p * 4 + 3)
  have nRr : R ≠ rg := fun e => by
    have h1 := own_lt HG.out.rows rg (by rw [ev]; rfl)
    have := RW.out
    omega
  have ngr : g ≠ rg := fun e => HG3.out.vg (by rw [ev]; simp [Value.ownBlock, e])
  have W4 := hid (show World.ownsRow ((((w3.setCell ⟨rg, p * 4, none⟩ (.string st)).setCell ⟨rg, p * 4 + 1, none⟩ (.int .i64 (r : Int))).setCell ⟨rg, p * 4 + 2, none⟩ (.int .i64 (dt : Int))).setCell ⟨rg, p * 4 + 3, none⟩ (.int .i64 (me : Int))) 0 40 4 (.slice (some ⟨rg, 0, none⟩) n k) n (rowCells (s.rows.set p ⟨t, r, dt, me⟩)) by
    have hs : ∀ (z : Nat), z < 4 → p * 4 + z < (rowCells s.rows).length := fun z hz => by rw [rowCells_len, ← HN.out]; omega
    have h0 := row_set HRO.out (i := p * 4) (hs 0 (by decide)) (.string st)
    have h1 := row_set h0 (i := p * 4 + 1) (by simp only [List.length_set]; exact hs 1 (by decide)) (.int .i64 (r : Int))
    have h2 := row_set h1 (i := p * 4 + 2) (by simp only [List.length_set]; exact hs 2 (by decide)) (.int .i64 (dt : Int))
    have h3 := row_set h2 (i := p * 4 + 3) (by simp only [List.length_set]; exact hs 3 (by decide)) (.int .i64 (me : Int))
    have e4 := rowCells_put s.rows p ⟨t, r, dt, me⟩ HP.out
    simp only at e4
    rw [← HST.out] at e4
    rw [e4] at h3
    exact h3)
  clear hrgb f0 HR3
  go_wp2_with fail
  go_region
  go_wp2_with fail
  go_ret
  obtain ⟨w4, hw4⟩ : ∃ w4, w4 = ((((w3.setCell ⟨rg, p * 4, none⟩ (.string st)).setCell ⟨rg, p * 4 + 1, none⟩ (.int .i64 (r : Int))).setCell ⟨rg, p * 4 + 2, none⟩ (.int .i64 (dt : Int))).setCell ⟨rg, p * 4 + 3, none⟩ (.int .i64 (me : Int))).drew := ⟨_, rfl⟩
  have u4 : Upd [rg] w3 w4 := by rw [hw4]; exact ((((((Upd.refl [rg] w3).setCell (.inl (by simp)) _).setCell (.inl (by simp)) _).setCell (.inl (by simp)) _).setCell (.inl (by simp)) _)).drew
  rw [← hw4]
  refine ⟨rfl, F, ⟨v, ⟨?_, ?_⟩, HF.out⟩, fun x hx => .inl hx, HU3.out.trans u4 (fun x hx => .inl (by rw [HF.out]; simp at hx; subst hx; exact mem_foot.2 (.inr (by rw [ev]; rfl))))⟩
  · show _ = some (Obj.cells #[.int .i64 (me : Int), .int .i64 ((ct + 1 : Nat) : Int), v] 56 (0, 0))
    rw [← HDT.out]
    exact u4.blk HG3.out.blk (by simpa using ngr)
  · show World.ownsRow _ 0 40 4 v (s.rows.set p ⟨t, r, ct + 1, me⟩).length _
    rw [List.length_set, ev, ← HN.out, ← HDT.out, hw4]
    exact own_new W4.out ((Upd.refl [] _).drew)
end Go.Proofs.YtbkhjmdklghbiaaDoor.Nm
