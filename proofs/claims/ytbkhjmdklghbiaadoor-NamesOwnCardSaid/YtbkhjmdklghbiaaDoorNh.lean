/- Names: check. -/
import Derived.Test.YtbkhjmdklghbiaaDoorNg
namespace Go.Proofs.YtbkhjmdklghbiaaDoor.Nm
open Go Go.RowKit Go.Proofs.YtbkhjmdklghbiaaDoor Go.Proofs.YtbkhjmdklghbiaaDoor.K Go.Proofs.YtbkhjmdklghbiaaDoor.M Go.Proofs.YtbkhjmdklghbiaaDoor.O

theorem less_table : ∀ a < 7, ∀ b < 7, a < b → Op.bytesLess (nmS a).toList (nmS b).toList = true := by decide +kernel
theorem geq_nm (t : TypeId) (a b : ByteArray) (h : Op.bytesLess a.toList b.toList = true) (w : World) : (binOp .geq t (.string a) (.string b)).run Tryd.prog w = .ok (.bool false) w := by
  simp [binOp, Op.stringOp, h]
/-- Rows with counts of at most c. -/
structure RB (l : List Row) (c : Nat) : Prop where
  c1 : ∀ i, i < l.length → 1 ≤ (l.getD i noRow).count ∧ (l.getD i noRow).count ≤ c
  n8 : ∀ i, i < l.length → 1 ≤ (l.getD i noRow).node ∧ (l.getD i noRow).node ≤ 8
set_option maxHeartbeats 8000000 in
set_option maxRecDepth 100000 in
theorem check_any (a : Option Addr) (n k : Nat) (l : List Row) (c : Nat) (w : World) (hl : n = l.length) (hw : WF l) (hb : RB l c) (hc : c ≤ 1099511627776) (hr : RowAt w a l) :
    Calls Tryd.prog 23 #[.slice a n k] w fun e w' => e = .returned (.int .i64 0) ∧ Upd [] w w' := by
  have HL := hid hl
  have HW := hid hw
  have HB := hid hb
  have HR := hid hr
  have hn7 : n ≤ 7 := by rw [hl]; exact hw.few
  clear hl hw hb hr
  go_enter Tryd.func23, Tryd.ntmps23
  go_wp2_with fail
  go_loopg [10] n (fun d v10 wr => ∃ i : Nat, v10 = .int .i64 (i : Int) ∧ i ≤ n ∧ Hid (i + d = n) ∧ Hid (Upd [] w wr))
  case atStart => exact ⟨0, rfl, by omega, hid (by omega), hid (Upd.refl _ _)⟩
  case round =>
    obtain ⟨i, rfl, hi, Hd, HU⟩ := hrel
    by_cases hin : i < n
    · have hi' : (i : Int) < (n : Int) := by omega
      have hil : i < l.length := by rw [← HL.out]; exact hin
      obtain ⟨g, rfl, c0, c1, c2, c3⟩ := (HR.out.new HU.out) i hil
      obtain ⟨b1, b2⟩ := HB.out.c1 i hil
      obtain ⟨b3, b4⟩ := HB.out.n8 i hil
      have hk := HW.out.keys i hil
      have HP := hid (show 0 < i → ∃ s' : ByteArray, wr.cell? ⟨g, (i - 1) * 4, none⟩ = some (.string s') ∧ Op.bytesLess s'.toList (nmS (l.getD i noRow).name).toList = true from fun h0 => by
        obtain ⟨g', e, d0, -⟩ := (HR.out.new HU.out) (i - 1) (by omega)
        cases e
        exact ⟨_, d0, less_table _ (HW.out.keys (i - 1) (by omega)) _ hk (HW.out.up (i - 1) i (by omega) hil)⟩)
      have WD := fun w => hid (word_nm _ hk w)
      obtain ⟨s, hs⟩ : ∃ s, s = nmS (l.getD i noRow).name := ⟨_, rfl⟩
      obtain ⟨x1, hx1⟩ : ∃ x, x = (l.getD i noRow).ref := ⟨_, rfl⟩
      obtain ⟨x2, hx2⟩ : ∃ x, x = (l.getD i noRow).count := ⟨_, rfl⟩
      obtain ⟨x3, hx3⟩ : ∃ x, x = (l.getD i noRow).node := ⟨_, rfl⟩
      rw [← hs] at c0 HP WD
      rw [← hx1] at c1
      rw [← hx2] at c2 b1 b2
      rw [← hx3] at c3 b3 b4
      have q1 : ¬ (x1 : Int) < 0 := by omega
      have q2 : ¬ (x2 : Int) < 1 := by omega
      have q3 : ¬ (1099511627776 : Int) < (x2 : Int) := by omega
      have q4 : ¬ (x3 : Int) < 1 := by omega
      have q5 : ¬ (8 : Int) < (x3 : Int) := by omega
      clear hs hx1 hx2 hx3 hk b1 b2 b3 b4 hil
      obtain ⟨Y, hY⟩ : ∃ Y, Y = wr.heap.size := ⟨_, rfl⟩
      obtain ⟨w1, hw1⟩ : ∃ w1, w1 = wr.alloc (.cells #[.string s, .int .i64 (x1 : Int), .int .i64 (x2 : Int), .int .i64 (x3 : Int)] 40) := ⟨_, rfl⟩
      have u1 := hid (show Upd [] wr w1 by rw [hw1]; exact (Upd.refl [] wr).alloc _)
      have YB := hid (show w1.heap[Y]? = some (.cells #[.string s, .int .i64 (x1 : Int), .int .i64 (x2 : Int), .int .i64 (x3 : Int)] 40 (0, 0)) by rw [hw1, hY]; exact K.blk_new wr _)
      have HX := hid hw1
      have HYY := hid hY
      clear hw1 hY
      go_wp2_with fail
      rw [← HX.out, ← HYY.out]
      refine (WD _).out.mono ?_
      rintro e w2 ⟨rfl, hu⟩
      have U2 := hid ((HU.out.trans u1.out (fun t ht => by cases ht)).trans hu (fun t ht => by cases ht))
      have u2 := hid (u1.out.trans hu (fun t ht => by cases ht))
      have yb := hu.blk YB.out (by simp)
      have y0 : w2.cell? ⟨Y, 0, none⟩ = some (.string s) := K.blk_cell yb 0
      have y1 : w2.cell? ⟨Y, 1, none⟩ = some (.int .i64 (x1 : Int)) := K.blk_cell yb 1
      have y2 : w2.cell? ⟨Y, 2, none⟩ = some (.int .i64 (x2 : Int)) := K.blk_cell yb 2
      have y3 : w2.cell? ⟨Y, 3, none⟩ = some (.int .i64 (x3 : Int)) := K.blk_cell yb 3
      clear hu WD yb HX HYY c0 c1 c2 c3
      by_cases hi0 : i = 0
      · subst hi0
        go_wp2_with fail
        go_quiet (fail)
        go_wp2_with fail
        go_roundg (n - 1)
        case measure => have := Hd.out; omega
        case rel => exact ⟨1, by go_num, by omega, hid (by omega), hid (U2.out.drewN nq)⟩
      · obtain ⟨s', d0, hge⟩ := HP.out (by omega)
        replace d0 := u2.out.cell d0 (by simp)
        have hi0' : 0 < (i : Int) := by omega
        have hi0n : 0 < i := by omega
        have hdec : decide (0 < i) = true := decide_eq_true hi0n
        have hg := fun w => geq_nm 9 s' s hge w
        have hw1 : IntKind.i64.wrap ((i : Int) - 1) = ((i - 1 : Nat) : Int) := by rw [IntWalk.i64_in _ (by omega)]; omega
        have hlt : ((i - 1 : Nat) : Int) < (n : Int) := by omega
        go_wp2_with fail
        go_quiet (fail)
        go_wp2_with fail
        go_roundg (n - (i + 1))
        case measure => have := Hd.out; omega
        case rel => exact ⟨i + 1, by go_num, by omega, hid (by omega), hid (U2.out.drewN nq)⟩
    · have hi' : ¬ (i : Int) < (n : Int) := by omega
      go_wp2_with fail
      go_ret
      exact ⟨rfl, HU.out⟩
end Go.Proofs.YtbkhjmdklghbiaaDoor.Nm
