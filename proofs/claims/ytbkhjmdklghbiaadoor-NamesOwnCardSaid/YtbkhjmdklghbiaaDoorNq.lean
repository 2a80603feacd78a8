/- Names: slices.Equal at rows and at names. -/
import Derived.Test.YtbkhjmdklghbiaaDoorNp
import Derived.Laws.StructEq
namespace Go.Proofs.YtbkhjmdklghbiaaDoor.Nm
open Go Go.RowKit Go.Proofs.YtbkhjmdklghbiaaDoor Go.Proofs.YtbkhjmdklghbiaaDoor.K Go.Proofs.YtbkhjmdklghbiaaDoor.M Go.Proofs.YtbkhjmdklghbiaaDoor.O

theorem held40 : Tryd.prog.stoodInHeld 40 = false := by kernel_rfl
theorem held47 : Tryd.prog.stoodInHeld 47 = false := by kernel_rfl
theorem fields40 : Tryd.prog.fieldsOf 40 = #[{ name := "Name", type := 9, offset := 0, embedded := false, tag := "", pkgPath := "", byteOffset := 0 }, { name := "Ref", type := 3, offset := 1, embedded := false, tag := "", pkgPath := "", byteOffset := 16 }, { name := "Count", type := 3, offset := 2, embedded := false, tag := "", pkgPath := "", byteOffset := 24 }, { name := "Node", type := 3, offset := 3, embedded := false, tag := "", pkgPath := "", byteOffset := 32 }] := by
  unfold Program.fieldsOf; rw [Tryd.underlying40]
theorem fields47 : Tryd.prog.fieldsOf 47 = #[{ name := "Name", type := 9, offset := 0, embedded := false, tag := "", pkgPath := "", byteOffset := 0 }, { name := "Ref", type := 3, offset := 1, embedded := false, tag := "", pkgPath := "", byteOffset := 16 }] := by
  unfold Program.fieldsOf; rw [Tryd.underlying47]
theorem struct40 : Tryd.prog.underlying 40 = some (.struct (Tryd.prog.fieldsOf 40)) := by rw [fields40]; exact Tryd.underlying40
theorem struct47 : Tryd.prog.underlying 47 = some (.struct (Tryd.prog.fieldsOf 47)) := by rw [fields47]; exact Tryd.underlying47
theorem neq40 (s : ByteArray) (a b c : Int) (w : World) : (binOp .neq 40 (.agg #[.string s, .int .i64 a, .int .i64 b, .int .i64 c]) (.agg #[.string s, .int .i64 a, .int .i64 b, .int .i64 c])).run Tryd.prog w = .ok (.bool false) w := by
  have z3 : ∀ w, (Go.sizeOf 3).run Tryd.prog w = .ok 1 w := Tryd.sizeOf3
  have z9 : ∀ w, (Go.sizeOf 9).run Tryd.prog w = .ok 1 w := Tryd.sizeOf9
  have a3 : ∀ w, (isAgg 3).run Tryd.prog w = .ok false w := Tryd.isAgg3
  have a9 : ∀ w, (isAgg 9).run Tryd.prog w = .ok false w := Tryd.isAgg9
  rw [run_neq_struct, run_equalIn_struct w 9999 40 _ _ struct40 held40, fields40]
  have q : ∀ (x y : Int) (w : World), (Op.equalIn 9999 3 (.int .i64 x) (.int .i64 y)).run Tryd.prog w = .ok (x == y) w := fun x y w => run_equalIn_int w 9998 3 .i64 .i64 x y Tryd.underlying3
  have q9 : ∀ (x y : ByteArray) (w : World), (Op.equalIn 9999 9 (.string x) (.string y)).run Tryd.prog w = .ok (x.toList == y.toList) w := fun x y w => run_equalIn_string w 9998 9 x y Tryd.underlying9
  simp [Op.eqFields, part, Sem.run_bind, a3, a9, q, q9, Result.andThen]
theorem neq47 (s : ByteArray) (a : Int) (w : World) : (binOp .neq 47 (.agg #[.string s, .int .i64 a]) (.agg #[.string s, .int .i64 a])).run Tryd.prog w = .ok (.bool false) w := by
  have z3 : ∀ w, (Go.sizeOf 3).run Tryd.prog w = .ok 1 w := Tryd.sizeOf3
  have z9 : ∀ w, (Go.sizeOf 9).run Tryd.prog w = .ok 1 w := Tryd.sizeOf9
  have a3 : ∀ w, (isAgg 3).run Tryd.prog w = .ok false w := Tryd.isAgg3
  have a9 : ∀ w, (isAgg 9).run Tryd.prog w = .ok false w := Tryd.isAgg9
  rw [run_neq_struct, run_equalIn_struct w 9999 47 _ _ struct47 held47, fields47]
  have q : ∀ (x y : Int) (w : World), (Op.equalIn 9999 3 (.int .i64 x) (.int .i64 y)).run Tryd.prog w = .ok (x == y) w := fun x y w => run_equalIn_int w 9998 3 .i64 .i64 x y Tryd.underlying3
  have q9 : ∀ (x y : ByteArray) (w : World), (Op.equalIn 9999 9 (.string x) (.string y)).run Tryd.prog w = .ok (x.toList == y.toList) w := fun x y w => run_equalIn_string w 9998 9 x y Tryd.underlying9
  simp [Op.eqFields, part, Sem.run_bind, a3, a9, q, q9, Result.andThen]
def noNm : Nat × Nat := (0, 0)
/-- Names lie at a. -/
def NmAt (w : World) (a : Option Addr) (l : List (Nat × Nat)) : Prop := ∀ i, i < l.length → ∃ g, a = some ⟨g, 0, none⟩ ∧ w.cell? ⟨g, i * 2, none⟩ = some (.string (nmS (l.getD i noNm).1)) ∧ w.cell? ⟨g, i * 2 + 1, none⟩ = some (.int .i64 ((l.getD i noNm).2 : Int))
theorem NmAt.upd {w w' : World} {a : Option Addr} {l : List (Nat × Nat)} {S : List Nat} (h : NmAt w a l) (u : Upd S w w') (hs : ∀ g, a = some ⟨g, 0, none⟩ → g ∉ S) : NmAt w' a l := fun i hi => by
  obtain ⟨g, e, c0, c1⟩ := h i hi
  exact ⟨g, e, u.cell c0 (hs g e), u.cell c1 (hs g e)⟩
theorem NmAt.new {w w' : World} {a : Option Addr} {l : List (Nat × Nat)} (h : NmAt w a l) (u : Upd [] w w') : NmAt w' a l := h.upd u (fun _ _ hs => by cases hs)
theorem nmCells_get : ∀ (l : List (Nat × Nat)) (i : Nat), i < l.length →
    (nmCells l)[i * 2]? = some (.string (nmS (l.getD i noNm).1)) ∧ (nmCells l)[i * 2 + 1]? = some (.int .i64 ((l.getD i noNm).2 : Int))
  | [], i, h => by simp at h
  | x :: l, 0, _ => by simp [nmCells, nmVals]
  | x :: l, i + 1, h => by
    have ih := nmCells_get l i (by simpa using h)
    have e : nmCells (x :: l) = nmVals x ++ nmCells l := rfl
    rw [e, List.getElem?_append_right (by simp [nmVals]; omega), List.getElem?_append_right (by simp [nmVals]; omega)]
    rw [show (i + 1) * 2 - (nmVals x).length = i * 2 by simp [nmVals]; omega, show (i + 1) * 2 + 1 - (nmVals x).length = i * 2 + 1 by simp [nmVals]; omega]
    exact ih
theorem nmAt_own {w : World} {B n k : Nat} {a : Option Addr} {l : List (Nat × Nat)} (h : w.ownsRow B 47 2 (.slice a n k) l.length (nmCells l)) : NmAt w a l := fun i hi => by
  obtain ⟨a', k', e, _, _, hc⟩ := own_view h
  simp only [Value.slice.injEq] at e
  obtain ⟨rfl, -, rfl⟩ := e
  obtain ⟨c0, c1⟩ := nmCells_get l i hi
  obtain ⟨g, e0, _, h0, _⟩ := hc _ _ c0
  obtain ⟨g1, e1, _, h1, _⟩ := hc _ _ c1
  rw [e0] at e1
  cases e1
  exact ⟨g, e0, h0, h1⟩
theorem NmAt.take {w : World} {a : Option Addr} {l : List (Nat × Nat)} (h : NmAt w a l) (m : Nat) : NmAt w a (l.take m) := fun i hi => by
  have h1 : i < l.length := by have := List.length_take_le' m l; omega
  have h2 : i < m := by have := List.length_take_le m l; omega
  obtain ⟨g, e, c0, c1⟩ := h i h1
  have e2 : (l.take m).getD i noNm = l.getD i noNm := by simp only [List.getD_eq_getElem?_getD, List.getElem?_take_of_lt h2]
  exact ⟨g, e, by rw [e2]; exact c0, by rw [e2]; exact c1⟩

set_option maxHeartbeats 8000000 in
set_option maxRecDepth 100000 in
theorem equal_rows (a b : Option Addr) (n c d : Nat) (l : List Row) (w : World) (ha : RowAt w a l) (hb : RowAt w b l) (hn : n = l.length) (hn9 : n ≤ 1000) :
    Calls Tryd.prog 16 #[.slice a n c, .slice b n d] w fun e w' => e = .returned (.bool true) ∧ Upd [] w w' := by
  have HA := hid ha
  have HB := hid hb
  have HN := hid hn
  clear ha hb hn
  go_enter Tryd.func16, Tryd.ntmps16
  go_wp2_with fail
  go_loopg [13] n (fun d v13 wr => ∃ (i : Nat), v13 = .int .i64 (i : Int) ∧ i ≤ n ∧ Hid (i + d = n) ∧ Hid (Upd [] w wr))
  case atStart => exact ⟨0, rfl, by omega, hid (by omega), hid (Upd.refl [] w)⟩
  case round =>
    obtain ⟨i, rfl, hin, Hi, HU⟩ := hrel
    by_cases hi : i < n
    · obtain ⟨g, rfl, c0, c1, c2, c3⟩ := (HA.out.new HU.out) i (by rw [← HN.out]; exact hi)
      obtain ⟨g', rfl, d0, d1, d2, d3⟩ := (HB.out.new HU.out) i (by rw [← HN.out]; exact hi)
      obtain ⟨⟨nm, rf, ct, nd⟩, hev⟩ : ∃ ev, ev = l.getD i noRow := ⟨_, rfl⟩
      rw [← hev] at c0 c1 c2 c3 d0 d1 d2 d3
      simp only at c0 c1 c2 c3 d0 d1 d2 d3
      clear hev
      obtain ⟨st, hst⟩ : ∃ st, st = nmS nm := ⟨_, rfl⟩
      rw [← hst] at c0 d0
      clear hst
      have hi' : (i : Int) < (n : Int) := by omega
      have hne := fun w => neq40 st (rf : Int) (ct : Int) (nd : Int) w
      go_upto_region 6 with (fail)
      go_quiet (fail)
      go_wp2_with fail
      go_roundg (n - (i + 1))
      case measure => have := Hi.out; omega
      case rel => exact ⟨i + 1, by go_num, by omega, hid (by omega), hid (HU.out.drewN nq)⟩
    · obtain rfl : i = n := by omega
      go_wp2_with fail
      go_ret
      exact ⟨rfl, HU.out⟩

set_option maxHeartbeats 8000000 in
set_option maxRecDepth 100000 in
theorem equal_names (a b : Option Addr) (n c d : Nat) (l : List (Nat × Nat)) (w : World) (ha : NmAt w a l) (hb : NmAt w b l) (hn : n = l.length) (hn9 : n ≤ 1000) :
    Calls Tryd.prog 18 #[.slice a n c, .slice b n d] w fun e w' => e = .returned (.bool true) ∧ Upd [] w w' := by
  have HA := hid ha
  have HB := hid hb
  have HN := hid hn
  clear ha hb hn
  go_enter Tryd.func18, Tryd.ntmps18
  go_wp2_with fail
  go_loopg [13] n (fun d v13 wr => ∃ (i : Nat), v13 = .int .i64 (i : Int) ∧ i ≤ n ∧ Hid (i + d = n) ∧ Hid (Upd [] w wr))
  case atStart => exact ⟨0, rfl, by omega, hid (by omega), hid (Upd.refl [] w)⟩
  case round =>
    obtain ⟨i, rfl, hin, Hi, HU⟩ := hrel
    by_cases hi : i < n
    · obtain ⟨g, rfl, c0, c1⟩ := (HA.out.new HU.out) i (by rw [← HN.out]; exact hi)
      obtain ⟨g', rfl, d0, d1⟩ := (HB.out.new HU.out) i (by rw [← HN.out]; exact hi)
      obtain ⟨⟨nm, rf⟩, hev⟩ : ∃ ev, ev = l.getD i noNm := ⟨_, rfl⟩
      rw [← hev] at c0 c1 d0 d1
      simp only at c0 c1 d0 d1
      clear hev
      obtain ⟨st, hst⟩ : ∃ st, st = nmS nm := ⟨_, rfl⟩
      rw [← hst] at c0 d0
      clear hst
      have hi' : (i : Int) < (n : Int) := by omega
      have hne := fun w => neq47 st (rf : Int) w
      go_upto_region 6 with (fail)
      go_quiet (fail)
      go_wp2_with fail
      go_roundg (n - (i + 1))
      case measure => have := Hi.out; omega
      case rel => exact ⟨i + 1, by go_num, by omega, hid (by omega), hid (HU.out.drewN nq)⟩
    · obtain rfl : i = n := by omega
      go_wp2_with fail
      go_ret
      exact ⟨rfl, HU.out⟩
end Go.Proofs.YtbkhjmdklghbiaaDoor.Nm
