/- Gossip: New, State; rows compared. -/
import Derived.Test.YtgkjkgooonicbaaGq
import Derived.Shelf.SlicesE.Clone
import Derived.BigQuiet
import Derived.Laws.StructEq
namespace Go.Proofs.Ytgkjkgooonicbaa.Gs
open Go Go.RowKit Go.Proofs.Ytgkjkgooonicbaa Go.Proofs.Ytgkjkgooonicbaa.K Go.Proofs.Ytgkjkgooonicbaa.M Go.Proofs.Ytgkjkgooonicbaa.O

def laysR_ren : Go.Shelf.Ren := ⟨fun | 41 => 46 | n => n, fun | 22 => 61 | 23 => 65 | 4 => 4 | n => n, fun | n => n⟩
theorem laysR : Go.Proofs.SlLaysE0.n41 Try.prog laysR_ren := {
  mixed := by kernel_rfl
  f41 := ⟨Try.f46.name, by decide, Try.func46.trans (congrArg some (by kernel_rfl))⟩
  t4 := Try.underlying4
  a4 := Try.isAgg4
  z4 := Try.sizeOf4
  v4 := Try.zeroValue4
  t22 := Try.underlying61
  a22 := Try.isAgg61
  z22 := Try.sizeOf61
  v22 := Try.zeroValue61 }
theorem RowAt.some {w : World} {a : Option Addr} {l : List Row} (h : RowAt w a l) (h0 : 0 < l.length) : ∃ g o, a = some ⟨g, o, none⟩ := by
  obtain ⟨g, o, e, -⟩ := h 0 h0
  exact ⟨g, o, e⟩
theorem rowCells_at : ∀ (l : List Row) (j : Nat) (u : Value), (rowCells l)[j]? = some u → ∃ i c, i < l.length ∧ j = i * 3 + c ∧ ((c = 0 ∧ u = .int .i64 ((l.getD i noRow).node : Int)) ∨ (c = 1 ∧ u = .int .i64 ((l.getD i noRow).turn : Int)) ∨ (c = 2 ∧ u = .int .i64 ((l.getD i noRow).says : Int))) := fun l j u h => by
  have hj : j < (rowCells l).length := (List.getElem?_eq_some_iff.1 h).1
  rw [rowCells_len] at hj
  have hi : j / 3 < l.length := by omega
  obtain ⟨d0, d1, d2⟩ := rowCells_get l (j / 3) hi
  refine ⟨j / 3, j % 3, hi, by omega, ?_⟩
  have hc : j % 3 = 0 ∨ j % 3 = 1 ∨ j % 3 = 2 := by omega
  rcases hc with c | c | c
  · rw [show j = j / 3 * 3 by omega, d0] at h
    exact .inl ⟨c, by cases h; rfl⟩
  · rw [show j = j / 3 * 3 + 1 by omega, d1] at h
    exact .inr (.inl ⟨c, by cases h; rfl⟩)
  · rw [show j = j / 3 * 3 + 2 by omega, d2] at h
    exact .inr (.inr ⟨c, by cases h; rfl⟩)
/-- slices.Clone of rows. -/
theorem clone_rows {w : World} {g o : Nat} {l : List Row} (k : Nat) (h : RowAt w (some ⟨g, o, none⟩) l) (hl : l.length ≤ 100) :
    Calls Try.prog 46 #[.slice (some ⟨g, o, none⟩) l.length k] w fun e w' => ∃ v', e = .returned v' ∧ w'.ownsRow w.heap.size 65 3 v' l.length (rowCells l) ∧ Upd [] w w' := by
  obtain ⟨i65, hi, hz0, hz1, hz2⟩ := info_parts info65
  refine (Go.Proofs.AnyE.slices_Clone laysR i65 _ 3 24 hi hz0 hz1 hz2 rfl (by decide) (fun w => by kernel_rfl) g o l.length k (rowCells l) w (by rw [rowCells_len]) (by unfold maxLen; omega) (by omega) (fun j u hu => ?_) (rowCells_one l)).mono ?_
  · obtain ⟨i, c, hi, rfl, hc⟩ := rowCells_at l j u hu
    obtain ⟨g', o', e, c0, c1, c2⟩ := h i hi
    cases e
    rcases hc with ⟨rfl, rfl⟩ | ⟨rfl, rfl⟩ | ⟨rfl, rfl⟩
    · exact c0
    · exact c1
    · exact c2
  · rintro e w' ⟨v', rfl, ho, _, hb⟩
    exact ⟨v', rfl, ho, Upd.of_below hb []⟩

set_option maxHeartbeats 2000000 in
set_option maxRecDepth 100000 in
theorem state_any {w : World} {F : List Nat} {g : Nat} {s : G} (h : IsG w F g s) (h0 : 0 < s.rows.length) (h8 : s.rows.length ≤ 100) :
    Calls Try.prog 34 #[.pointer (some ⟨g, 0, none⟩)] w fun e w' => ∃ v', e = .returned v' ∧ w'.ownsRow w.heap.size 65 3 v' s.rows.length (rowCells s.rows) ∧ Upd [] w w' := by
  obtain ⟨v, b, hg, -⟩ := h
  obtain ⟨r, k, e, -⟩ := hg.row h0
  subst e
  have cg := hg.cells.2.2.1
  have CR := hid (clone_rows k (rowAt_own hg.rows) h8)
  clear hg h0 h8
  go_enter Try.func34, Try.ntmps34
  go_wp2_with fail
  refine CR.out.mono ?_
  rintro e w' ⟨v', rfl, ho, hu⟩
  have HO := hid ho
  have HU := hid hu
  clear ho hu
  go_wp2_with fail
  go_ret
  exact ⟨v', rfl, HO.out, HU.out⟩
def gnew (me tk : Nat) : G := ⟨me, tk, [⟨me, 0, 1⟩], fun _ => 0, 0⟩
set_option maxHeartbeats 2000000 in
set_option maxRecDepth 100000 in
theorem new_any (me tk : Nat) (w : World) (h1 : 1 ≤ me) (h8 : me ≤ 8) (t1 : 1 ≤ tk) (t2 : tk ≤ 100) :
    Calls Try.prog 36 #[.int .i64 (me : Int), .int .i64 (tk : Int)] w fun e w' => ∃ F g, e = .returned (.tuple #[.pointer (some ⟨g, 0, none⟩), .int .i64 0]) ∧ IsG w' F g (gnew me tk) ∧ Upd [] w w' ∧ ∀ x ∈ F, w.heap.size ≤ x := by
  have k1 : ¬ (me : Int) < 1 := by omega
  have k2 : ¬ (8 : Int) < (me : Int) := by omega
  have k3 : ¬ (tk : Int) < 1 := by omega
  have k4 : ¬ (100 : Int) < (tk : Int) := by omega
  clear h1 h8 t1 t2
  have hmm := @run_makeMap Try.prog
  go_enter Try.func36, Try.ntmps36
  go_wp2_with fail
  go_ret2
  obtain ⟨w1, hw1⟩ : ∃ w1, w1 = w.alloc (.cells #[.int .i64 (me : Int), .int .i64 0, .int .i64 1] 65) := ⟨_, rfl⟩
  have s1 : w1.heap.size = w.heap.size + 1 := by rw [hw1]; show (w.heap.push _).size = _; simp
  obtain ⟨w2, hw2⟩ : ∃ w2, w2 = w1.alloc (.map #[] 0) := ⟨_, rfl⟩
  have s2 : w2.heap.size = w.heap.size + 1 + 1 := by rw [hw2]; show (w1.heap.push _).size = _; simp [s1]
  have b1 : w1.heap[w.heap.size]? = some (.cells #[.int .i64 (me : Int), .int .i64 0, .int .i64 1] 65 (0, 0)) := by rw [hw1]; exact K.blk_new w _
  have m2 : IsMap w2 (w.heap.size + 1) [] := by rw [hw2, ← s1]; exact IsMap.made w1
  have b2 : w2.heap[w.heap.size]? = some (.cells #[.int .i64 (me : Int), .int .i64 0, .int .i64 1] 65 (0, 0)) := by rw [hw2]; exact K.blk_alloc b1 _
  rw [← hw1, ← hw2, ← s2]
  obtain ⟨o3, ho3⟩ : ∃ o3, o3 = Obj.cells #[.int .i64 (me : Int), .int .i64 (tk : Int), .slice (some ⟨w.heap.size, 0, none⟩) 1 1, .map (some (w.heap.size + 1)), .int .i64 0] 86 := ⟨_, rfl⟩
  rw [← ho3]
  have b3 := K.blk_new w2 o3
  refine ⟨_, w2.heap.size, rfl, ⟨.slice (some ⟨w.heap.size, 0, none⟩) 1 1, w.heap.size + 1, ⟨b3.trans (by rw [ho3]; rfl), ?_, ?_⟩, rfl⟩, ?_, ?_⟩
  · exact ⟨rfl, .inr ⟨w.heap.size, 1, _, rfl, Nat.zero_le _, K.blk_alloc b2 _, Nat.le_refl _, by decide, rfl, rfl⟩⟩
  · exact ⟨[], m2.alloc _, List.nodup_nil, fun t => rfl⟩
  · rw [hw2, hw1]
    exact (((Upd.refl [] w).alloc _).alloc _).alloc _
  · intro x hx
    rcases mem_foot.1 hx with rfl | rfl | hx
    · omega
    · omega
    · simp [Value.ownBlock] at hx
      omega
theorem held65 : Try.prog.stoodInHeld 65 = false := by kernel_rfl
theorem fields65 : Try.prog.fieldsOf 65 = #[{ name := "Node", type := 3, offset := 0, embedded := false, tag := "", pkgPath := "", byteOffset := 0 }, { name := "Turn", type := 3, offset := 1, embedded := false, tag := "", pkgPath := "", byteOffset := 8 }, { name := "Says", type := 3, offset := 2, embedded := false, tag := "", pkgPath := "", byteOffset := 16 }] := by
  unfold Program.fieldsOf; rw [Try.underlying65]
theorem struct65 : Try.prog.underlying 65 = some (.struct (Try.prog.fieldsOf 65)) := by rw [fields65]; exact Try.underlying65
theorem neq_row (a b c a' b' c' : Int) (w : World) : (binOp .neq 65 (.agg #[.int .i64 a, .int .i64 b, .int .i64 c]) (.agg #[.int .i64 a', .int .i64 b', .int .i64 c'])).run Try.prog w = .ok (.bool (!(a == a' && (b == b' && c == c')))) w := by
  have a3 : ∀ w, (isAgg 3).run Try.prog w = .ok false w := Try.isAgg3
  rw [run_neq_struct, run_equalIn_struct w 9999 65 _ _ struct65 held65, fields65]
  have q : ∀ (x y : Int) (w : World), (Op.equalIn 9999 3 (.int .i64 x) (.int .i64 y)).run Try.prog w = .ok (x == y) w := fun x y w => run_equalIn_int w 9998 3 .i64 .i64 x y Try.underlying3
  simp [Op.eqFields, part, Sem.run_bind, a3, q, Result.andThen]
  cases h1 : (a == a') <;> cases h2 : (b == b') <;> cases h3 : (c == c') <;> simp_all
instance : DecidableEq Row := fun a b => decidable_of_iff (a.node = b.node ∧ a.turn = b.turn ∧ a.says = b.says) (by cases a; cases b; simp)
set_option maxHeartbeats 4000000 in
set_option maxRecDepth 100000 in
/-- slices.Equal of rows. -/
theorem eq_rows {w : World} (a a' : Option Addr) (l l' : List Row) (n n' k k' : Nat) (hn : n = l.length) (hn' : n' = l'.length) (h : RowAt w a l) (h' : RowAt w a' l') (h8 : l.length ≤ 100) (h8' : l'.length ≤ 100) :
    Calls Try.prog 38 #[.slice a n k, .slice a' n' k'] w fun e w' => e = .returned (.bool (decide (l = l'))) ∧ Upd [] w w' := by
  have H := hid h
  have H' := hid h'
  have HN := hid hn
  have HN' := hid hn'
  have hn1 : n ≤ 100 := by omega
  have hn2 : n' ≤ 100 := by omega
  clear h h' hn hn' h8 h8'
  by_cases hl : n = n'
  · have hl' : ((n : Int) == (n' : Int)) = true := by rw [beq_iff_eq]; omega
    have HL := hid hl
    clear hl
    go_enter Try.func38, Try.ntmps38
    go_wp2_with fail
    go_loopg [13] n (fun d v13 wr => ∃ (i : Nat), v13 = .int .i64 (i : Int) ∧ i ≤ n ∧ Hid (i + d = n) ∧ Hid (∀ j, j < i → l.getD j noRow = l'.getD j noRow) ∧ Hid (Upd [] w wr))
    case atStart => exact ⟨0, rfl, by omega, hid (by omega), hid (fun j hj => by omega), hid (Upd.refl _ _)⟩
    case round =>
      obtain ⟨i, rfl, hi, Hd, HE, HU⟩ := hrel
      by_cases hin : i < n
      · have hil : i < l.length := by rw [← HN.out]; exact hin
        have hil' : i < l'.length := by rw [← HN'.out, ← HL.out]; exact hin
        obtain ⟨r, o, rfl, c0, c1, c2⟩ := H.out.upd HU.out (fun _ _ _ hs => by cases hs) i hil
        obtain ⟨r', o', rfl, d0, d1, d2⟩ := H'.out.upd HU.out (fun _ _ _ hs => by cases hs) i hil'
        obtain ⟨x, hx⟩ : ∃ x, x = l.getD i noRow := ⟨_, rfl⟩
        obtain ⟨y, hy⟩ : ∃ y, y = l'.getD i noRow := ⟨_, rfl⟩
        rw [← hx] at c0 c1 c2
        rw [← hy] at d0 d1 d2
        obtain ⟨nd, tn, sa⟩ := x
        obtain ⟨nd', tn', sa'⟩ := y
        simp only at c0 c1 c2 d0 d1 d2
        have hi' : (i : Int) < (n : Int) := by omega
        have hi2 : (i : Int) < (n' : Int) := by have := HL.out; omega
        have HX := hid hx
        have HY := hid hy
        clear hx hy hil hil'
        by_cases hxy : (⟨nd, tn, sa⟩ : Row) = ⟨nd', tn', sa'⟩
        · have hne : ∀ w, (binOp .neq 65 (.agg #[.int .i64 (nd : Int), .int .i64 (tn : Int), .int .i64 (sa : Int)]) (.agg #[.int .i64 (nd' : Int), .int .i64 (tn' : Int), .int .i64 (sa' : Int)])).run Try.prog w = .ok (.bool false) w := fun w => by
            simp only [Row.mk.injEq] at hxy
            obtain ⟨rfl, rfl, rfl⟩ := hxy
            rw [neq_row]; simp
          have HXY := hid hxy
          clear hxy
          go_upto_region 6 with (fail)
          go_quiet (fail)
          go_wp2_with fail
          go_roundg (n - (i + 1))
          case measure => have := Hd.out; omega
          case rel =>
            refine ⟨i + 1, by go_num, by omega, hid (by omega), hid (fun j hj => ?_), hid (HU.out.drewN _)⟩
            by_cases e : j = i
            · rw [e, ← HX.out, ← HY.out, HXY.out]
            · exact HE.out j (by omega)
        · have hne : ∀ w, (binOp .neq 65 (.agg #[.int .i64 (nd : Int), .int .i64 (tn : Int), .int .i64 (sa : Int)]) (.agg #[.int .i64 (nd' : Int), .int .i64 (tn' : Int), .int .i64 (sa' : Int)])).run Try.prog w = .ok (.bool true) w := fun w => by
            rw [neq_row]
            simp only [Row.mk.injEq] at hxy
            have : ((nd : Int) == (nd' : Int) && ((tn : Int) == (tn' : Int) && (sa : Int) == (sa' : Int))) = false := by
              rw [Bool.eq_false_iff]
              intro q
              simp only [Bool.and_eq_true, beq_iff_eq] at q
              exact hxy ⟨by omega, by omega, by omega⟩
            rw [this]; rfl
          have HXY := hid hxy
          clear hxy
          go_upto_region 6 with (fail)
          go_quiet (fail)
          go_wp2_with fail
          go_ret
          refine ⟨?_, HU.out.drewN _⟩
          have : ¬ (l = l') := fun e => HXY.out (by rw [HX.out, HY.out, e])
          simp [this]
      · have hni : ¬ (i : Int) < (n : Int) := by omega
        go_wp2_with fail
        go_ret
        refine ⟨?_, HU.out⟩
        have hlen : l.length = l'.length := by rw [← HN.out, ← HN'.out]; exact HL.out
        have : l = l' := List.ext_getElem hlen (fun j h1 h2 => by
          have := HE.out j (by have := HN.out; omega)
          rw [List.getD_eq_getElem?_getD, List.getD_eq_getElem?_getD, List.getElem?_eq_getElem h1, List.getElem?_eq_getElem h2] at this
          exact this)
        simp [this]
  · have hl' : ((n : Int) == (n' : Int)) = false := by rw [beq_eq_false_iff_ne]; omega
    have HL := hid hl
    clear hl
    go_enter Try.func38, Try.ntmps38
    go_wp2_with fail
    go_ret
    refine ⟨?_, Upd.refl _ _⟩
    have : ¬ (l = l') := fun e => HL.out (by rw [HN.out, HN'.out, e])
    simp [this]
end Go.Proofs.Ytgkjkgooonicbaa.Gs
