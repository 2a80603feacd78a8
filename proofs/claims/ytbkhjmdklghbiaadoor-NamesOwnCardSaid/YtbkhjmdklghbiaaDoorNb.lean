/- Names: rows in memory; slices.BinarySearchFunc at rows. -/
import Derived.Test.YtbkhjmdklghbiaaDoorNa
import Derived.Deep.Cut
import Derived.Deep.CutRange
import Derived.BigQuiet
import Derived.Deep.QuietTactic
namespace Go.Proofs.YtbkhjmdklghbiaaDoor.Nm
open Go Go.RowKit Go.Proofs.YtbkhjmdklghbiaaDoor Go.Proofs.YtbkhjmdklghbiaaDoor.K Go.Proofs.YtbkhjmdklghbiaaDoor.M Go.Proofs.YtbkhjmdklghbiaaDoor.O

structure Row where
  name : Nat
  ref : Nat
  count : Nat
  node : Nat
deriving DecidableEq, Inhabited
def noRow : Row := ⟨0, 0, 0, 0⟩
def rowVals (r : Row) : List Value := [.string (nmS r.name), .int .i64 (r.ref : Int), .int .i64 (r.count : Int), .int .i64 (r.node : Int)]
def rowCells (l : List Row) : List Value := l.flatMap rowVals
theorem rowCells_len : ∀ l : List Row, (rowCells l).length = l.length * 4
  | [] => rfl
  | x :: l => by have := rowCells_len l; simp only [rowCells, List.flatMap_cons, List.length_append, List.length_cons] at this ⊢; simp only [rowVals, List.length_cons, List.length_nil]; omega
theorem rowCells_app (l m : List Row) : rowCells (l ++ m) = rowCells l ++ rowCells m := by simp [rowCells]
theorem rowVals_one (r : Row) : ∀ u ∈ rowVals r, u.oneCell' = true := fun u hu => by
  simp [rowVals] at hu
  rcases hu with rfl | rfl | rfl | rfl <;> rfl
theorem rowCells_one (l : List Row) : ∀ u ∈ rowCells l, u.oneCell' = true := fun u hu => by
  obtain ⟨x, _, hm⟩ := List.mem_flatMap.1 hu
  exact rowVals_one x u hm
theorem rowCells_get : ∀ (l : List Row) (i : Nat), i < l.length →
    (rowCells l)[i * 4]? = some (.string (nmS (l.getD i noRow).name)) ∧ (rowCells l)[i * 4 + 1]? = some (.int .i64 ((l.getD i noRow).ref : Int)) ∧ (rowCells l)[i * 4 + 2]? = some (.int .i64 ((l.getD i noRow).count : Int)) ∧ (rowCells l)[i * 4 + 3]? = some (.int .i64 ((l.getD i noRow).node : Int))
  | [], i, h => by simp at h
  | x :: l, 0, _ => by simp [rowCells, rowVals]
  | x :: l, i + 1, h => by
    have ih := rowCells_get l i (by simpa using h)
    have e : rowCells (x :: l) = rowVals x ++ rowCells l := rfl
    rw [e, List.getElem?_append_right (by simp [rowVals]; omega), List.getElem?_append_right (by simp [rowVals]; omega), List.getElem?_append_right (by simp [rowVals]; omega), List.getElem?_append_right (by simp [rowVals]; omega)]
    rw [show (i + 1) * 4 - (rowVals x).length = i * 4 by simp [rowVals]; omega, show (i + 1) * 4 + 1 - (rowVals x).length = i * 4 + 1 by simp [rowVals]; omega, show (i + 1) * 4 + 2 - (rowVals x).length = i * 4 + 2 by simp [rowVals]; omega, show (i + 1) * 4 + 3 - (rowVals x).length = i * 4 + 3 by simp [rowVals]; omega]
    exact ih
/-- How many rows stand ahead of name t. -/
def posOf (l : List Row) (t : Nat) : Nat := (l.takeWhile (fun r => decide (r.name < t))).length
def hasRow (l : List Row) (t : Nat) : Bool := decide (posOf l t < l.length ∧ (l.getD (posOf l t) noRow).name = t)
theorem posOf_eq : ∀ (l : List Row) (t i : Nat), i ≤ l.length → (∀ k, k < i → (l.getD k noRow).name < t) → (i < l.length → t ≤ (l.getD i noRow).name) → posOf l t = i
  | [], t, i, h, _, _ => by simp at h; subst h; rfl
  | x :: l, t, 0, _, _, h2 => by
    have := h2 (by simp)
    simp at this
    simp [posOf, Nat.not_lt.2 this]
  | x :: l, t, i + 1, h, h1, h2 => by
    have e := h1 0 (by omega)
    simp at e
    have ih := posOf_eq l t i (by simpa using h) (fun k hk => by have := h1 (k + 1) (by omega); simpa using this) (fun hi => by have := h2 (by simpa using hi); simpa using this)
    simp only [posOf, List.takeWhile_cons, e, decide_true, if_true, List.length_cons]
    simp only [posOf] at ih
    omega
/-- Rows in order of their names. -/
def Sorted (l : List Row) : Prop := ∀ i j, i < j → j < l.length → (l.getD i noRow).name < (l.getD j noRow).name
theorem sorted_le {l : List Row} (h : Sorted l) {i j : Nat} (hij : i ≤ j) (hj : j < l.length) : (l.getD i noRow).name ≤ (l.getD j noRow).name := by
  by_cases e : i = j
  · subst e; exact Nat.le_refl _
  · exact Nat.le_of_lt (h i j (by omega) hj)
def Keys (l : List Row) : Prop := ∀ i, i < l.length → (l.getD i noRow).name < 7

/-- A row's cells in memory. -/
def RowAt (w : World) (a : Option Addr) (l : List Row) : Prop := ∀ i, i < l.length → ∃ g, a = some ⟨g, 0, none⟩ ∧ w.cell? ⟨g, i * 4, none⟩ = some (.string (nmS (l.getD i noRow).name)) ∧ w.cell? ⟨g, i * 4 + 1, none⟩ = some (.int .i64 ((l.getD i noRow).ref : Int)) ∧ w.cell? ⟨g, i * 4 + 2, none⟩ = some (.int .i64 ((l.getD i noRow).count : Int)) ∧ w.cell? ⟨g, i * 4 + 3, none⟩ = some (.int .i64 ((l.getD i noRow).node : Int))
theorem RowAt.upd {w w' : World} {a : Option Addr} {l : List Row} {S : List Nat} (h : RowAt w a l) (u : Upd S w w') (hs : ∀ g, a = some ⟨g, 0, none⟩ → g ∉ S) : RowAt w' a l := fun i hi => by
  obtain ⟨g, e, c0, c1, c2, c3⟩ := h i hi
  exact ⟨g, e, u.cell c0 (hs g e), u.cell c1 (hs g e), u.cell c2 (hs g e), u.cell c3 (hs g e)⟩
theorem RowAt.new {w w' : World} {a : Option Addr} {l : List Row} (h : RowAt w a l) (u : Upd [] w w') : RowAt w' a l := h.upd u (fun _ _ hs => by cases hs)
theorem rowAt_own {w : World} {B n k : Nat} {a : Option Addr} {l : List Row} (h : w.ownsRow B 40 4 (.slice a n k) l.length (rowCells l)) : RowAt w a l := fun i hi => by
  obtain ⟨a', k', e, _, _, hc⟩ := own_view h
  simp only [Value.slice.injEq] at e
  obtain ⟨rfl, -, rfl⟩ := e
  obtain ⟨c0, c1, c2, c3⟩ := rowCells_get l i hi
  obtain ⟨g, e0, _, h0, _⟩ := hc _ _ c0
  obtain ⟨g1, e1, _, h1, _⟩ := hc _ _ c1
  obtain ⟨g2, e2, _, h2, _⟩ := hc _ _ c2
  obtain ⟨g3, e3, _, h3, _⟩ := hc _ _ c3
  subst e0
  cases e1; cases e2; cases e3
  exact ⟨g, rfl, h0, h1, h2, h3⟩

theorem run_enter {P : Program} {f : FuncId} {fn : Func} {c : Code} (hf : P.funcs[f]? = some fn) (hname : (fn.name == "runtime.NumGoroutine") = false) (hb : fn.body = some c) (args : Array Value) (w : World) :
    (callFunc f args).run P w = .ok (.enter f args) w := by
  have h1 : fn.name ≠ "runtime.NumGoroutine" := by simpa using hname
  simp [callFunc, hf, h1, hb]
/-- A function that compares a row's name. -/
structure Cmps (fn : Nat) : Prop where
  enter : ∀ args w, (callFunc fn args).run Tryd.prog w = .ok (.enter fn args) w
  tells : ∀ (r : Row) (t : Nat) w, r.name < 7 → t < 7 → Calls Tryd.prog fn #[.agg (rowVals r).toArray, .string (nmS t)] w fun e w' => e = .returned (.int .i64 (cmpN r.name t)) ∧ Upd [] w w'
set_option maxHeartbeats 2000000 in
set_option maxRecDepth 100000 in
theorem cmps38 : Cmps 38 := ⟨fun args w => run_enter Tryd.func38 (by kernel_rfl) rfl args w, fun r t w hr ht => by
  have CP := fun w => hid (compare_nm r.name t hr ht w)
  unfold rowVals
  obtain ⟨s, hs⟩ : ∃ s, s = nmS r.name := ⟨_, rfl⟩
  obtain ⟨s', hs'⟩ : ∃ s, s = nmS t := ⟨_, rfl⟩
  rw [← hs, ← hs'] at CP ⊢
  clear hs hs' hr ht
  go_enter Tryd.func38, Tryd.ntmps38
  go_wp2_with fail
  refine (CP _).out.mono ?_
  rintro e w1 ⟨rfl, rfl⟩
  go_wp2_with fail
  go_ret
  exact ⟨rfl, (Upd.refl [] w).alloc _⟩⟩
set_option maxHeartbeats 2000000 in
set_option maxRecDepth 100000 in
theorem cmps25 : Cmps 25 := ⟨fun args w => run_enter Tryd.func25 (by kernel_rfl) rfl args w, fun r t w hr ht => by
  have CP := fun w => hid (compare_nm r.name t hr ht w)
  unfold rowVals
  obtain ⟨s, hs⟩ : ∃ s, s = nmS r.name := ⟨_, rfl⟩
  obtain ⟨s', hs'⟩ : ∃ s, s = nmS t := ⟨_, rfl⟩
  rw [← hs, ← hs'] at CP ⊢
  clear hs hs' hr ht
  go_enter Tryd.func25, Tryd.ntmps25
  go_wp2_with fail
  refine (CP _).out.mono ?_
  rintro e w1 ⟨rfl, rfl⟩
  go_wp2_with fail
  go_ret
  exact ⟨rfl, (Upd.refl [] w).alloc _⟩⟩

set_option maxHeartbeats 4000000 in
set_option maxRecDepth 100000 in
theorem search_any (fn : Nat) (hfn : Cmps fn) (a : Option Addr) (n c : Nat) (l : List Row) (t : Nat) (w : World) (hl : n = l.length) (hs : Sorted l) (hk : Keys l) (ht : t < 7) (hr : RowAt w a l) (hn : n ≤ 1000) (hnc : n ≤ c) :
    Calls Tryd.prog 24 #[.slice a n c, .string (nmS t), .func (.func fn) #[] #[]] w fun e w' => e = .returned (.tuple #[.int .i64 (posOf l t : Int), .bool (hasRow l t)]) ∧ Upd [] w w' := by
  have HL := hid hl
  have HS := hid hs
  have HR := hid hr
  have HK := hid hk
  have HT := hid ht
  have hen := hfn.enter
  have HFN := hid hfn
  obtain ⟨st, hst⟩ : ∃ st, st = nmS t := ⟨_, rfl⟩
  rw [← hst]
  have HST := hid hst
  clear hl hs hr hk ht hfn hst
  go_enter Tryd.func24, Tryd.ntmps24
  go_wp2_with fail
  go_loopg [9, 10] (n + 1) (fun d v9 v10 wr => ∃ (i j : Nat), v9 = .int .i64 (i : Int) ∧ v10 = .int .i64 (j : Int) ∧ i ≤ j ∧ j ≤ n ∧ Hid (j - i ≤ d) ∧ Hid (∀ k, k < i → (l.getD k noRow).name < t) ∧ Hid (∀ k, j ≤ k → k < n → t ≤ (l.getD k noRow).name) ∧ Hid (Upd [] w wr))
  case atStart => exact ⟨0, n, rfl, rfl, by omega, by omega, hid (by omega), hid (fun k hk => by omega), hid (fun k hk hk2 => by omega), hid (Upd.refl _ _)⟩
  case round =>
    obtain ⟨i, j, rfl, rfl, hij, hj, Hd, H1, H2, HU⟩ := hrel
    by_cases hlt : i < j
    · have hlt' : (i : Int) < (j : Int) := by omega
      obtain ⟨g, rfl, c0, c1, c2, c3⟩ := (HR.out.new HU.out) ((i + j) / 2) (by rw [← HL.out]; omega)
      have CL := hid (HFN.out.tells (l.getD ((i + j) / 2) noRow) t wr (HK.out _ (by rw [← HL.out]; omega)) HT.out)
      unfold rowVals at CL
      rw [← HST.out] at CL
      obtain ⟨nd, hnd⟩ : ∃ x, x = (l.getD ((i + j) / 2) noRow).name := ⟨_, rfl⟩
      obtain ⟨v1, hv1⟩ : ∃ x, x = (l.getD ((i + j) / 2) noRow).ref := ⟨_, rfl⟩
      obtain ⟨v2, hv2⟩ : ∃ x, x = (l.getD ((i + j) / 2) noRow).count := ⟨_, rfl⟩
      obtain ⟨v3, hv3⟩ : ∃ x, x = (l.getD ((i + j) / 2) noRow).node := ⟨_, rfl⟩
      rw [← hnd, ← hv1, ← hv2, ← hv3] at CL
      rw [← hnd] at c0
      rw [← hv1] at c1
      rw [← hv2] at c2
      rw [← hv3] at c3
      obtain ⟨s, hs⟩ : ∃ s, s = nmS nd := ⟨_, rfl⟩
      rw [← hs] at CL c0
      have HND := hid hnd
      have hmn : (i + j) / 2 < n := by omega
      have HJN := hid (show (i + j) / 2 < j ∧ i ≤ (i + j) / 2 from ⟨by omega, by omega⟩)
      clear hnd hv1 hv2 hv3 hs
      go_wp2_with fail
      refine CL.out.mono ?_
      rintro e w2 ⟨rfl, hu⟩
      have HU2 := hid (HU.out.trans hu (fun t ht => by cases ht))
      clear hu c0 c1 c2 c3 CL
      by_cases hlt2 : nd < t
      · have e1 : cmpN nd t = -1 := by unfold cmpN; rw [if_pos hlt2]
        rw [e1]
        have HLT := hid hlt2
        clear e1 hlt2
        go_wp2_with fail
        go_roundg (j - ((i + j) / 2 + 1))
        case measure => have := Hd.out; have := HJN.out; omega
        case rel => exact ⟨(i + j) / 2 + 1, j, by rw [show ((i : Int) + (j : Int)) / 2 + 1 = (((i + j) / 2 + 1 : Nat) : Int) by omega], rfl, by omega, hj, hid (Nat.le_refl _), hid (fun k hk => by
            have h1 := sorted_le HS.out (show k ≤ (i + j) / 2 by omega) (by rw [← HL.out]; exact hmn)
            have h2 := HND.out
            have h3 := HLT.out
            omega), H2, HU2⟩
      · have e1 : ¬ cmpN nd t < 0 := by unfold cmpN; rw [if_neg hlt2]; split <;> omega
        have HLT := hid hlt2
        obtain ⟨q, hq⟩ : ∃ q, q = cmpN nd t := ⟨_, rfl⟩
        rw [← hq] at e1 ⊢
        clear hlt2 hq
        go_wp2_with fail
        go_roundg ((i + j) / 2 - i)
        case measure => have := Hd.out; have := HJN.out; omega
        case rel => exact ⟨i, (i + j) / 2, rfl, by rw [show ((i : Int) + (j : Int)) / 2 = (((i + j) / 2 : Nat) : Int) by omega], by omega, by omega, hid (Nat.le_refl _), H1, hid (fun k hk hk2 => by
            have h1 := sorted_le HS.out hk (by rw [← HL.out]; exact hk2)
            have h2 := HND.out
            have h3 := HLT.out
            omega), HU2⟩
    · obtain rfl : i = j := by omega
      have hpos : posOf l t = i := posOf_eq l t i (by rw [← HL.out]; exact hj) H1.out (fun h => H2.out i (Nat.le_refl _) (by rw [HL.out]; exact h))
      by_cases hin : i < n
      · obtain ⟨g, rfl, c0, c1, c2, c3⟩ := (HR.out.new HU.out) i (by rw [← HL.out]; exact hin)
        have CL := hid (HFN.out.tells (l.getD i noRow) t wr (HK.out _ (by rw [← HL.out]; exact hin)) HT.out)
        unfold rowVals at CL
        rw [← HST.out] at CL
        obtain ⟨nd, hnd⟩ : ∃ x, x = (l.getD i noRow).name := ⟨_, rfl⟩
        obtain ⟨v1, hv1⟩ : ∃ x, x = (l.getD i noRow).ref := ⟨_, rfl⟩
        obtain ⟨v2, hv2⟩ : ∃ x, x = (l.getD i noRow).count := ⟨_, rfl⟩
        obtain ⟨v3, hv3⟩ : ∃ x, x = (l.getD i noRow).node := ⟨_, rfl⟩
        rw [← hnd, ← hv1, ← hv2, ← hv3] at CL
        rw [← hnd] at c0
        rw [← hv1] at c1
        rw [← hv2] at c2
        rw [← hv3] at c3
        obtain ⟨s, hs⟩ : ∃ s, s = nmS nd := ⟨_, rfl⟩
        rw [← hs] at CL c0
        have hin' : (i : Int) < (n : Int) := by omega
        have HF : Hid (hasRow l t = decide (cmpN nd t = 0)) := hid (by
          unfold hasRow cmpN
          rw [hpos, ← hnd]
          have h1 : i < l.length := by rw [← HL.out]; exact hin
          by_cases e1 : nd < t
          · rw [if_pos e1]; simp; omega
          · rw [if_neg e1]
            by_cases e2 : t < nd
            · rw [if_pos e2]; simp; omega
            · rw [if_neg e2]; simp [h1]; omega)
        have HP := hid hpos
        obtain ⟨q, hq⟩ : ∃ q, q = cmpN nd t := ⟨_, rfl⟩
        rw [← hq] at CL
        have HQ := hid hq
        clear hnd hv1 hv2 hv3 hs hpos hq
        go_wp2_with fail
        refine CL.out.mono ?_
        rintro e w2 ⟨rfl, hu⟩
        have HU2 := hid (HU.out.trans hu (fun t ht => by cases ht))
        clear hu c0 c1 c2 c3 CL
        go_wp2_with fail
        go_ret2
        refine ⟨?_, HU2.out⟩
        rw [HP.out, HF.out, ← HQ.out]
        by_cases z : q = 0
        · subst z; rfl
        · simp [z]
      · obtain rfl : i = n := by omega
        have HF : Hid (hasRow l t = false) := hid (by unfold hasRow; rw [hpos, ← HL.out]; simp)
        have HP := hid hpos
        clear hpos
        go_wp2_with fail
        go_ret2
        refine ⟨?_, HU.out⟩
        rw [HP.out, HF.out]
        rfl
end Go.Proofs.YtbkhjmdklghbiaaDoor.Nm
