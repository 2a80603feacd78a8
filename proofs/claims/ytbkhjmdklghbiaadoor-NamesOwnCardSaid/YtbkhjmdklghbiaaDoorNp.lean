/- Names: All. -/
import Derived.Test.YtbkhjmdklghbiaaDoorNn
namespace Go.Proofs.YtbkhjmdklghbiaaDoor.Nm
open Go Go.RowKit Go.Proofs.YtbkhjmdklghbiaaDoor Go.Proofs.YtbkhjmdklghbiaaDoor.K Go.Proofs.YtbkhjmdklghbiaaDoor.M Go.Proofs.YtbkhjmdklghbiaaDoor.O

/-- The names that mean something. -/
def allOf (l : List Row) : List (Nat × Nat) := (l.filter (fun r => decide (0 < r.ref))).map (fun r => (r.name, r.ref))
def nmVals (p : Nat × Nat) : List Value := [.string (nmS p.1), .int .i64 (p.2 : Int)]
def nmCells (l : List (Nat × Nat)) : List Value := l.flatMap nmVals
theorem nmCells_snoc (l : List (Nat × Nat)) (p : Nat × Nat) : nmCells (l ++ [p]) = nmCells l ++ nmVals p := by simp [nmCells]
theorem nmVals_one (p : Nat × Nat) : ∀ u ∈ nmVals p, u.oneCell' = true := fun u hu => by
  simp [nmVals] at hu
  rcases hu with rfl | rfl <;> rfl
theorem nmCells_len : ∀ l : List (Nat × Nat), (nmCells l).length = l.length * 2
  | [] => rfl
  | x :: l => by have := nmCells_len l; simp only [nmCells, List.flatMap_cons, List.length_append, List.length_cons] at this ⊢; simp only [nmVals, List.length_cons, List.length_nil]; omega
theorem allOf_take (l : List Row) (j : Nat) (h : j < l.length) : allOf (l.take (j + 1)) = allOf (l.take j) ++ (if 0 < (l.getD j noRow).ref then [((l.getD j noRow).name, (l.getD j noRow).ref)] else []) := by
  have e : l.take (j + 1) = l.take j ++ [l.getD j noRow] := by
    rw [List.getD_eq_getElem?_getD, List.getElem?_eq_getElem h]; simp
  unfold allOf
  rw [e, List.filter_append, List.map_append]
  congr 1
  obtain ⟨x, hx⟩ : ∃ x, x = l.getD j noRow := ⟨_, rfl⟩
  rw [← hx]
  by_cases c : 0 < x.ref
  · simp [c]
  · simp [c]
theorem allOf_le (l : List Row) : (allOf l).length ≤ l.length := by unfold allOf; rw [List.length_map]; exact List.length_filter_le _ _
theorem info47 : (Tryd.prog.info? 47).map (fun i => (i.zero, i.size, i.bytes)) = some (some (.agg #[.string ⟨#[]⟩, .int .i64 0]), 2, 24) := by kernel_rfl

set_option maxHeartbeats 4000000 in
set_option maxRecDepth 100000 in
theorem all_any {w : World} {F : List Nat} {g : Nat} {s : G} (h : IsG w F g s) (h8 : s.rows.length ≤ 100) :
    Calls Tryd.prog 19 #[.pointer (some ⟨g, 0, none⟩)] w fun e w' => ∃ v', e = .returned v' ∧ w'.ownsRow w.heap.size 47 2 v' (allOf s.rows).length (nmCells (allOf s.rows)) ∧ Upd [] w w' := by
  obtain ⟨i47, hi47, hz47a, hz47b, hz47c⟩ := info_parts info47
  have HI47 := hid hi47
  have HA47 := hid hz47a
  have HB47 := hid hz47b
  have HC47 := hid hz47c
  obtain ⟨v, hg, -⟩ := h
  obtain ⟨a, k, rfl, hk, -⟩ := own_view hg.rows
  have cg := hg.cells.2.2.1
  obtain ⟨n, hn⟩ : ∃ n, n = s.rows.length := ⟨_, rfl⟩
  have HR := hid (rowAt_own hg.rows)
  rw [← hn] at cg hk h8
  have HL := hid hn
  obtain ⟨l, hl⟩ : ∃ l, l = s.rows := ⟨_, rfl⟩
  rw [← hl] at HR HL ⊢
  obtain ⟨B, hB⟩ : ∃ B, B = w.heap.size := ⟨_, rfl⟩
  have HBS := hid hB
  rw [← hB]
  clear hB hi47 hz47a hz47b hz47c hg hn hl
  go_enter Tryd.func19, Tryd.ntmps19
  go_wp2_with fail
  go_loopg [3, 11] n (fun d v3 v11 wr => ∃ (j : Nat), v11 = .int .i64 (j : Int) ∧ j ≤ n ∧ Hid (j + d = n) ∧ Hid (wr.ownsRow B 47 2 v3 (allOf (l.take j)).length (nmCells (allOf (l.take j)))) ∧ Hid (Upd [] w wr))
  case atStart => exact ⟨0, rfl, by omega, hid (by omega), hid (World.ownsRow_nil _ _ _ _), hid (Upd.refl _ _)⟩
  case round =>
    obtain ⟨j, rfl, hjn, Hj, Ho, Hu⟩ := hrel
    by_cases hj : j < n
    · have hjl := hid (show j < l.length by rw [← HL.out]; exact hj)
      obtain ⟨q, rfl, c0, c1, c2, c3⟩ := HR.out.new Hu.out j hjl.out
      have HT := hid (allOf_take l j hjl.out)
      obtain ⟨⟨nm, rf, ct, nd⟩, hev⟩ : ∃ ev, ev = l.getD j noRow := ⟨_, rfl⟩
      rw [← hev] at c0 c1 c2 c3 HT
      simp only at c0 c1 c2 c3 HT
      clear hev
      obtain ⟨st, hst⟩ : ∃ st, st = nmS nm := ⟨_, rfl⟩
      rw [← hst] at c0
      have HST := hid hst
      clear hst
      have hsl : (allOf (l.take j)).length ≤ 100 := by
        have := allOf_le (l.take j)
        have h2 : (l.take j).length ≤ j := by simp; omega
        omega
      obtain ⟨sb, hsb⟩ : ∃ sb, sb = allOf (l.take j) := ⟨_, rfl⟩
      rw [← hsb] at Ho hsl HT
      clear hsb
      have hws := hid Hu.out.size
      have hjn' : (j : Int) < (n : Int) := by omega
      by_cases hpp : 0 < rf
      · have b : 0 < (rf : Int) := by omega
        have HPP := hid hpp
        clear hpp
        go_wp2_with (first | (at_builtin; refine wpList_app (W := wr.alloc (.cells #[.string st, .int .i64 (rf : Int), .int .i64 (ct : Int), .int .i64 (nd : Int)] 40)) rfl (.tmp 18) (.tmp 24) 45 rfl B 47 i47 _ 2 24 Tryd.underlying45 HI47.out HA47.out HB47.out HC47.out rfl (by decide) u3 sb.length (nmCells sb) rfl (Ho.out.alloc _) [.string st, .int .i64 (rf : Int)] 47 (by first | rfl | (rw [World.size_alloc]; rfl)) rfl (by intro u hu; simp at hu; rcases hu with rfl | rfl <;> rfl) (by omega) (by omega) (by have := hws.out; have := HBS.out; simp; omega) ?_; intro v6 w6 hw6 hu6 hl6; have HW6 := hid hw6; have HU6 := hid hu6; clear hw6 hu6 hl6))
        go_roundg (n - (j + 1))
        case measure => have := Hj.out; omega
        case rel =>
          have e : allOf (l.take (j + 1)) = sb ++ [(nm, rf)] := by rw [HT.out, if_pos HPP.out]
          refine ⟨j + 1, by go_num, by omega, hid (by omega), hid ?_, hid ((Hu.out.alloc _).trans HU6.out (fun t ht => .inr (by rw [← HBS.out]; exact own_ge Ho.out t (by simpa using ht))))⟩
          rw [e, List.length_append, nmCells_snoc]
          have := HW6.out
          rw [HST.out] at this
          exact this
      · have b : ¬ 0 < (rf : Int) := by omega
        have HPP := hid hpp
        clear hpp
        go_wp2_with fail
        go_roundg (n - (j + 1))
        case measure => have := Hj.out; omega
        case rel => exact ⟨j + 1, by go_num, by omega, hid (by omega), hid (by rw [HT.out, if_neg HPP.out, List.append_nil]; exact Ho.out.alloc _), hid (Hu.out.alloc _)⟩
    · obtain rfl : j = n := by omega
      go_wp2_with fail
      go_ret
      refine ⟨_, rfl, ?_, Hu.out⟩
      have := Ho.out
      rw [HL.out, List.take_length] at this
      exact this
theorem net_all {B n : Nat} {Z : List Nat} {w : World} {g : Nat → Nat} {s : Nat → G} {b : Nat} (h : Net B Z n w g s) {i : Nat} (hi : i < n) (ho : Ok (s i) b) :
    Calls Tryd.prog 19 #[.pointer (some ⟨g i, 0, none⟩)] w fun e w' => ∃ v', e = .returned v' ∧ w'.ownsRow w.heap.size 47 2 v' (allOf (s i).rows).length (nmCells (allOf (s i).rows)) ∧ Upd [] w w' := by
  obtain ⟨F, hg, -, -⟩ := h.step hi
  exact all_any hg (by have := ho.wf.few; omega)
end Go.Proofs.YtbkhjmdklghbiaaDoor.Nm
