/- Names: Clone of rows, State, New. -/
import Derived.Test.YtbkhjmdklghbiaaDoorNh
import Derived.Shelf.SlicesE.Clone
namespace Go.Proofs.YtbkhjmdklghbiaaDoor.Nm
open Go Go.RowKit Go.Proofs.YtbkhjmdklghbiaaDoor Go.Proofs.YtbkhjmdklghbiaaDoor.K Go.Proofs.YtbkhjmdklghbiaaDoor.M Go.Proofs.YtbkhjmdklghbiaaDoor.O

def laysR_ren : Go.Shelf.Ren := ⟨fun | 41 => 20 | n => n, fun | 22 => 31 | 23 => 40 | 4 => 4 | n => n, fun | n => n⟩
theorem laysR : Go.Proofs.SlLaysE0.n41 Tryd.prog laysR_ren := {
  mixed := by kernel_rfl
  f41 := ⟨Tryd.f20.name, by decide, Tryd.func20.trans (congrArg some (by kernel_rfl))⟩
  t4 := Tryd.underlying4
  a4 := Tryd.isAgg4
  z4 := Tryd.sizeOf4
  v4 := Tryd.zeroValue4
  t22 := Tryd.underlying31
  a22 := Tryd.isAgg31
  z22 := Tryd.sizeOf31
  v22 := Tryd.zeroValue31 }
set_option maxHeartbeats 2000000 in
set_option maxRecDepth 100000 in
theorem clone_nil (w : World) : Calls Tryd.prog 20 #[.slice none 0 0] w fun e w' => e = .returned (.slice none 0 0) ∧ Upd [] w w' := by
  have h : ∀ w, (binOp .eql 31 (.slice none 0 0) (.slice none 0 0)).run Tryd.prog w = .ok (.bool true) w := fun w => by kernel_rfl
  go_enter Tryd.func20, Tryd.ntmps20
  go_wp2_with fail
  go_ret
  exact ⟨rfl, Upd.refl [] w⟩
/-- slices.Clone of rows. -/
theorem clone_rows {w : World} {B : Nat} {v : Value} {l : List Row} (h : w.ownsRow B 40 4 v l.length (rowCells l)) (hl : l.length ≤ 100) :
    Calls Tryd.prog 20 #[v] w fun e w' => ∃ v', e = .returned v' ∧ w'.ownsRow w.heap.size 40 4 v' l.length (rowCells l) ∧ Upd [] w w' := by
  obtain ⟨a, k, rfl, hk, hk2, hc⟩ := own_view h
  cases a with
  | none =>
    have e1 : l.length = 0 ∧ k = 0 := by
      rcases h.2 with ⟨e, e0⟩ | ⟨g, cap, cur, e, _⟩
      · simp only [Value.slice.injEq] at e; exact ⟨e0, e.2.2⟩
      · simp at e
    obtain ⟨e0, rfl⟩ := e1
    have : l = [] := List.eq_nil_of_length_eq_zero e0
    subst this
    exact (clone_nil w).mono fun _ _ ⟨he, hu⟩ => ⟨_, he, World.ownsRow_nil _ _ _ _, hu⟩
  | some ad =>
    obtain ⟨g, rfl⟩ : ∃ g, ad = ⟨g, 0, none⟩ := by
      rcases h.2 with ⟨e, _⟩ | ⟨g, cap, cur, e, _⟩
      · simp at e
      · simp only [Value.slice.injEq, Option.some.injEq] at e; exact ⟨g, e.1⟩
    obtain ⟨i40, hi, hz0, hz1, hz2⟩ := info_parts info40
    refine (Go.Proofs.AnyE.slices_Clone laysR i40 _ 4 40 hi hz0 hz1 hz2 rfl (by decide) (fun w => by kernel_rfl) g 0 l.length k (rowCells l) w (by rw [rowCells_len]) (by unfold maxLen; omega) (by omega) (fun j u hu => by
      rw [Nat.zero_add]
      obtain ⟨g', e', _, hc', _⟩ := hc j u hu
      simp only [Option.some.injEq, Addr.mk.injEq, and_true] at e'
      subst e'; exact hc') (rowCells_one l)).mono ?_
    rintro e w' ⟨v', rfl, ho, _, hb⟩
    exact ⟨v', rfl, ho, Upd.of_below hb []⟩
set_option maxHeartbeats 2000000 in
set_option maxRecDepth 100000 in
theorem state_any {w : World} {F : List Nat} {g : Nat} {s : G} (h : IsG w F g s) (h8 : s.rows.length ≤ 100) :
    Calls Tryd.prog 12 #[.pointer (some ⟨g, 0, none⟩)] w fun e w' => ∃ v', e = .returned v' ∧ w'.ownsRow w.heap.size 40 4 v' s.rows.length (rowCells s.rows) ∧ Upd [] w w' := by
  obtain ⟨v, hg, -⟩ := h
  have cg := hg.cells.2.2.1
  have CR := hid (clone_rows hg.rows h8)
  clear hg h8
  go_enter Tryd.func12, Tryd.ntmps12
  go_wp2_with fail
  refine CR.out.mono ?_
  rintro e w' ⟨v', rfl, ho, hu⟩
  have HO := hid ho
  have HU := hid hu
  clear ho hu
  go_wp2_with fail
  go_ret
  exact ⟨v', rfl, HO.out, HU.out⟩
def gnew (me : Nat) : G := ⟨me, 0, []⟩
set_option maxHeartbeats 2000000 in
set_option maxRecDepth 100000 in
theorem new_any (me : Nat) (w : World) (h1 : 1 ≤ me) (h8 : me ≤ 8) :
    Calls Tryd.prog 17 #[.int .i64 (me : Int)] w fun e w' => ∃ F g, e = .returned (.tuple #[.pointer (some ⟨g, 0, none⟩), .int .i64 0]) ∧ IsG w' F g (gnew me) ∧ Upd [] w w' ∧ ∀ x ∈ F, w.heap.size ≤ x := by
  have k1 : ¬ (me : Int) < 1 := by omega
  have k2 : ¬ (8 : Int) < (me : Int) := by omega
  clear h1 h8
  go_enter Tryd.func17, Tryd.ntmps17
  go_wp2_with fail
  go_ret2
  have b := K.blk_new w (.cells #[.int .i64 (me : Int), .int .i64 0, .slice none 0 0] 56)
  refine ⟨_, _, rfl, ⟨.slice none 0 0, ⟨b, World.ownsRow_nil _ _ _ _⟩, rfl⟩, (Upd.refl [] w).alloc _, fun x hx => ?_⟩
  rcases mem_foot.1 hx with rfl | hx
  · exact Nat.le_refl _
  · simp [Value.ownBlock] at hx
end Go.Proofs.YtbkhjmdklghbiaaDoor.Nm
