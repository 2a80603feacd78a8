/- Names: what is told is spoilt. -/
import Derived.Test.YtbkhjmdklghbiaaDoorMz
import Derived.Test.YtbkhjmdklghbiaaDoorNw
namespace Go.Proofs.YtbkhjmdklghbiaaDoor.Nm
open Go Go.RowKit Go.Proofs.YtbkhjmdklghbiaaDoor Go.Proofs.YtbkhjmdklghbiaaDoor.K Go.Proofs.YtbkhjmdklghbiaaDoor.M Go.Proofs.YtbkhjmdklghbiaaDoor.O

/-- A slice with the room of a block of its own, or with none. -/
def Blk (w : World) (a : Option Addr) (c sz : Nat) (e : TypeId) : Prop := c = 0 ∨ ∃ g cur, a = some ⟨g, 0, none⟩ ∧ w.heap[g]? = some (.cells cur e (0, 0)) ∧ cur.size = c * sz
theorem blk_own {w : World} {B n k sz m : Nat} {e : TypeId} {a : Option Addr} {xs : List Value} (h : w.ownsRow B e sz (.slice a n k) m xs) : Blk w a k sz e := by
  rcases h.2 with ⟨hv, -⟩ | ⟨g, cap, cur, hv, -, hg, -, -, hs, -⟩
  · simp only [Value.slice.injEq] at hv
    exact .inl hv.2.2
  · simp only [Value.slice.injEq] at hv
    obtain ⟨rfl, -, rfl⟩ := hv
    exact .inr ⟨g, cur, rfl, hg, hs⟩
set_option maxHeartbeats 4000000 in
set_option maxRecDepth 100000 in
theorem spoil_rows (a : Option Addr) (n c : Nat) (st : ByteArray) (x1 x2 x3 : Int) (w : World) (hb : Blk w a c 4 40) (_hn : n ≤ c) (hc : c ≤ 9223372036854775807) :
    Calls Tryd.prog 21 #[.slice a n c, .agg #[.string st, .int .i64 x1, .int .i64 x2, .int .i64 x3]] w fun e w' => e = .returned (.tuple #[]) ∧ Upd (blkOf a) w w' := by
  obtain ⟨H, hH⟩ : ∃ H, H = w.heap.size := ⟨_, rfl⟩
  obtain ⟨w1, hw1⟩ : ∃ w1, w1 = w.alloc (.cells #[.string st, .int .i64 x1, .int .i64 x2, .int .i64 x3] 40) := ⟨_, rfl⟩
  have HB1 := hid (show w1.heap[H]? = some (.cells #[.string st, .int .i64 x1, .int .i64 x2, .int .i64 x3] 40 (0, 0)) by rw [hw1, hH]; exact K.blk_new w _)
  have U1 := hid (show Upd (blkOf a) w w1 by rw [hw1]; exact (Upd.refl _ w).alloc _)
  have HK := hid (show Blk w1 a c 4 40 by
    rcases hb with h | ⟨g, cur, e, h1, h2⟩
    · exact .inl h
    · exact .inr ⟨g, cur, e, by rw [hw1]; exact K.blk_alloc h1 _, h2⟩)
  have HNE := hid (show ∀ g, a = some ⟨g, 0, none⟩ → 0 < c → H ≠ g by
    intro g e h0 h
    rcases hb with hc0 | ⟨g', cur, e', h1, h2⟩
    · omega
    · rw [e] at e'
      cases e'
      have := K.blk_lt h1
      omega)
  have HW := hid hw1
  have HH := hid hH
  clear hb hw1 hH
  go_enter Tryd.func21, Tryd.ntmps21
  go_wp2_with fail
  rw [← HW.out, ← HH.out]
  go_loopg [11] c (fun d v11 wr => ∃ (j : Nat), v11 = .int .i64 (j : Int) ∧ j ≤ c ∧ Hid (j + d = c) ∧ Hid (wr.heap[H]? = some (.cells #[.string st, .int .i64 x1, .int .i64 x2, .int .i64 x3] 40 (0, 0))) ∧ Hid (Blk wr a c 4 40) ∧ Hid (Upd (blkOf a) w wr))
  case atStart => exact ⟨0, rfl, by omega, hid (by omega), HB1, HK, U1⟩
  case round =>
    clear HB1 HK U1 HW
    obtain ⟨j, rfl, hjc, Hj, HB, HK, HU⟩ := hrel
    by_cases hj : j < c
    · have hj' : (j : Int) < (c : Int) := by omega
      obtain ⟨g, cur, rfl, hg, hs⟩ : ∃ g cur, a = some ⟨g, 0, none⟩ ∧ wr.heap[g]? = some (.cells cur 40 (0, 0)) ∧ cur.size = c * 4 := by
        rcases HK.out with h | h
        · omega
        · exact h
      have nHg := HNE.out g rfl (by omega)
      have HG := hid hg
      have HS := hid hs
      have r0 : wr.cell? ⟨H, 0, none⟩ = some (.string st) := K.blk_cell HB.out 0
      have r1 : wr.cell? ⟨H, 1, none⟩ = some (.int .i64 x1) := K.blk_cell HB.out 1
      have r2 : wr.cell? ⟨H, 2, none⟩ = some (.int .i64 x2) := K.blk_cell HB.out 2
      have r3 : wr.cell? ⟨H, 3, none⟩ = some (.int .i64 x3) := K.blk_cell HB.out 3
      have cell : ∀ z, z < 4 → ∃ v, wr.cell? ⟨g, j * 4 + z, none⟩ = some v := fun z hz => by
        rw [K.blk_cell HG.out]
        exact ⟨_, Array.getElem?_eq_getElem (by rw [HS.out]; omega)⟩
      obtain ⟨v0, e0⟩ := cell 0 (by decide)
      obtain ⟨v1, e1⟩ := cell 1 (by decide)
      obtain ⟨v2, e2⟩ := cell 2 (by decide)
      obtain ⟨v3, e3⟩ := cell 3 (by decide)
      rw [Nat.add_zero] at e0
      have f0 : wr.frozen? ⟨g, j * 4, none⟩ = false := K.blk_frozen HG.out _
      have f1 : wr.frozen? ⟨g, j * 4 + 1, none⟩ = false := K.blk_frozen HG.out _
      have f2 : wr.frozen? ⟨g, j * 4 + 2, none⟩ = false := K.blk_frozen HG.out _
      have f3 : wr.frozen? ⟨g, j * 4 + 3, none⟩ = false := K.blk_frozen HG.out _
      clear hg hs cell
      go_wp2_with fail
      go_roundg (c - (j + 1))
      case measure => have := Hj.out; omega
      case rel =>
        refine ⟨j + 1, by go_num, by omega, hid (by omega), hid ?_, hid ?_, hid ?_⟩
        · exact K.blk_far (K.blk_far (K.blk_far (K.blk_far HB.out nHg _) nHg _) nHg _) nHg _
        · exact .inr ⟨g, _, rfl, K.blk_set (K.blk_set (K.blk_set (K.blk_set HG.out _ _) _ _) _ _) _ _, by simp only [Array.size_setIfInBounds]; exact HS.out⟩
        · exact ((((HU.out.setCell (.inl (mem_blkOf rfl)) _).setCell (.inl (mem_blkOf rfl)) _).setCell (.inl (mem_blkOf rfl)) _).setCell (.inl (mem_blkOf rfl)) _)
    · have hj' : ¬ (j : Int) < (c : Int) := by omega
      go_wp2_with fail
      go_returns
      exact ⟨rfl, HU.out⟩
set_option maxHeartbeats 4000000 in
set_option maxRecDepth 100000 in
theorem spoil_names (a : Option Addr) (n c : Nat) (st : ByteArray) (x1 : Int) (w : World) (hb : Blk w a c 2 47) (_hn : n ≤ c) (hc : c ≤ 9223372036854775807) :
    Calls Tryd.prog 22 #[.slice a n c, .agg #[.string st, .int .i64 x1]] w fun e w' => e = .returned (.tuple #[]) ∧ Upd (blkOf a) w w' := by
  obtain ⟨H, hH⟩ : ∃ H, H = w.heap.size := ⟨_, rfl⟩
  obtain ⟨w1, hw1⟩ : ∃ w1, w1 = w.alloc (.cells #[.string st, .int .i64 x1] 47) := ⟨_, rfl⟩
  have HB1 := hid (show w1.heap[H]? = some (.cells #[.string st, .int .i64 x1] 47 (0, 0)) by rw [hw1, hH]; exact K.blk_new w _)
  have U1 := hid (show Upd (blkOf a) w w1 by rw [hw1]; exact (Upd.refl _ w).alloc _)
  have HK := hid (show Blk w1 a c 2 47 by
    rcases hb with h | ⟨g, cur, e, h1, h2⟩
    · exact .inl h
    · exact .inr ⟨g, cur, e, by rw [hw1]; exact K.blk_alloc h1 _, h2⟩)
  have HNE := hid (show ∀ g, a = some ⟨g, 0, none⟩ → 0 < c → H ≠ g by
    intro g e h0 h
    rcases hb with hc0 | ⟨g', cur, e', h1, h2⟩
    · omega
    · rw [e] at e'
      cases e'
      have := K.blk_lt h1
      omega)
  have HW := hid hw1
  have HH := hid hH
  clear hb hw1 hH
  go_enter Tryd.func22, Tryd.ntmps22
  go_wp2_with fail
  rw [← HW.out, ← HH.out]
  go_loopg [11] c (fun d v11 wr => ∃ (j : Nat), v11 = .int .i64 (j : Int) ∧ j ≤ c ∧ Hid (j + d = c) ∧ Hid (wr.heap[H]? = some (.cells #[.string st, .int .i64 x1] 47 (0, 0))) ∧ Hid (Blk wr a c 2 47) ∧ Hid (Upd (blkOf a) w wr))
  case atStart => exact ⟨0, rfl, by omega, hid (by omega), HB1, HK, U1⟩
  case round =>
    clear HB1 HK U1 HW
    obtain ⟨j, rfl, hjc, Hj, HB, HK, HU⟩ := hrel
    by_cases hj : j < c
    · have hj' : (j : Int) < (c : Int) := by omega
      obtain ⟨g, cur, rfl, hg, hs⟩ : ∃ g cur, a = some ⟨g, 0, none⟩ ∧ wr.heap[g]? = some (.cells cur 47 (0, 0)) ∧ cur.size = c * 2 := by
        rcases HK.out with h | h
        · omega
        · exact h
      have nHg := HNE.out g rfl (by omega)
      have HG := hid hg
      have HS := hid hs
      have r0 : wr.cell? ⟨H, 0, none⟩ = some (.string st) := K.blk_cell HB.out 0
      have r1 : wr.cell? ⟨H, 1, none⟩ = some (.int .i64 x1) := K.blk_cell HB.out 1
      have cell : ∀ z, z < 2 → ∃ v, wr.cell? ⟨g, j * 2 + z, none⟩ = some v := fun z hz => by
        rw [K.blk_cell HG.out]
        exact ⟨_, Array.getElem?_eq_getElem (by rw [HS.out]; omega)⟩
      obtain ⟨v0, e0⟩ := cell 0 (by decide)
      obtain ⟨v1, e1⟩ := cell 1 (by decide)
      rw [Nat.add_zero] at e0
      have f0 : wr.frozen? ⟨g, j * 2, none⟩ = false := K.blk_frozen HG.out _
      have f1 : wr.frozen? ⟨g, j * 2 + 1, none⟩ = false := K.blk_frozen HG.out _
      clear hg hs cell
      go_wp2_with fail
      go_roundg (c - (j + 1))
      case measure => have := Hj.out; omega
      case rel =>
        refine ⟨j + 1, by go_num, by omega, hid (by omega), hid ?_, hid ?_, hid ?_⟩
        · exact K.blk_far (K.blk_far HB.out nHg _) nHg _
        · exact .inr ⟨g, _, rfl, K.blk_set (K.blk_set HG.out _ _) _ _, by simp only [Array.size_setIfInBounds]; exact HS.out⟩
        · exact ((HU.out.setCell (.inl (mem_blkOf rfl)) _).setCell (.inl (mem_blkOf rfl)) _)
    · have hj' : ¬ (j : Int) < (c : Int) := by omega
      go_wp2_with fail
      go_returns
      exact ⟨rfl, HU.out⟩
theorem info40z : (Tryd.prog.info? 40).map (fun i => (i.zero, i.size, i.bytes)) = some (some (.agg #[.string ⟨#[]⟩, .int .i64 0, .int .i64 0, .int .i64 0]), 4, 40) := by kernel_rfl
/-- 'append(rows, make([]Row, 3)...)'. -/
theorem wpList_zeros {W : World} {ops : Array Oper} {rest : List Oper} {o : Oper} {a : Act} {Q : Exit → Act → World → Prop} (hgd : o.guard = none) (s x : Operand)
    (ho : o.op = .call { callee := .builtin .append, args := #[s, x], argTypes := #[31, 3] })
    (B : Nat) (v : Value) (n : Nat) (l : List Row) (hs : a.eval s = v) (hx : a.eval x = .int .i64 3) (hn : n = l.length) (hl : n ≤ 100) (hown : W.ownsRow B 40 4 v n (rowCells l)) (hB : B ≤ W.heap.size)
    (h : ∀ g c w', n + 3 ≤ c → c ≤ 9223372036854775807 → w'.ownsRow B 40 4 (.slice (some ⟨g, 0, none⟩) n c) n (rowCells l) → Upd v.ownBlock.toList W w' → wpList Tryd.prog ops Q rest (a.put o.dst (.slice (some ⟨g, 0, none⟩) (n + 3) c)) w') :
    wpList Tryd.prog ops Q (o :: rest) a W := by
  refine wpList_plain hgd fun K hK => ?_
  obtain ⟨i, hi, hz, hsz, hby⟩ := info_parts info40z
  obtain ⟨v', w', hr, h1, h2⟩ := run_append_zeros_own (P := Tryd.prog) W B 31 3 o.type 40 i _ .i64 .i64 4 40 Tryd.underlying31 Tryd.underlying3 hi hz hsz hby rfl (by decide) v n (rowCells l) hown 3 (by decide) (by
    intro u hu
    have e : (Builtin.zeroCells (Value.agg #[.string ⟨#[]⟩, .int .i64 0, .int .i64 0, .int .i64 0]).cells 3).toList = [.string ⟨#[]⟩, .int .i64 0, .int .i64 0, .int .i64 0, .string ⟨#[]⟩, .int .i64 0, .int .i64 0, .int .i64 0, .string ⟨#[]⟩, .int .i64 0, .int .i64 0, .int .i64 0] := by kernel_rfl
    rw [e] at hu
    simp only [List.mem_cons, List.not_mem_nil, or_false] at hu
    rcases hu with rfl | rfl | rfl | rfl | rfl | rfl | rfl | rfl | rfl | rfl | rfl | rfl <;> rfl) (by unfold maxLen; omega) (by omega) hB
  replace hr : (Builtin.append_ #[31, 3] o.type #[v, .int .i64 3]).run Tryd.prog W = .ok v' w' := hr
  obtain ⟨g, c, e', h3, h4⟩ : ∃ g c, v' = .slice (some ⟨g, 0, none⟩) (n + 3) c ∧ n + 3 ≤ c ∧ c ≤ maxLen := by
    rcases h1.2 with ⟨-, h0⟩ | ⟨g, c, cur, e, -, -, h3, h4, -, -⟩
    · omega
    · exact ⟨g, c, e, h3, h4⟩
  subst e'
  have h5 := row_take h1 (m := n) (by omega)
  rw [List.take_append_of_le_length (by rw [rowCells_len, hn]; exact Nat.le_refl _), List.take_of_length_le (by rw [rowCells_len, hn]; exact Nat.le_refl _)] at h5
  unfold Oper.wp execOp
  simp only [ho, resolve, invoke, builtin, Sem.run_bind, Sem.run_pure, Result.andThen_ok, List.map_toArray, List.map_cons, List.map_nil, hs, hx, hr]
  refine hK _ _ (h g c w' h3 (by unfold maxLen at h4; omega) h5 ((Upd.refl _ W).grown h2 (fun k hk => .inl (by simp [hk]))))
end Go.Proofs.YtbkhjmdklghbiaaDoor.Nm
