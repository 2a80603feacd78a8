/- An end of a line: New, Idle, Tick, Got, Put. -/
import Derived.Test.YtgkjkgooonicbaaLm
import Derived.Shelf.SlicesE.Clone
namespace Go.Proofs.Ytgkjkgooonicbaa.Lm
open Go Go.RowKit Go.Proofs.Ytgkjkgooonicbaa.K Go.Proofs.Ytgkjkgooonicbaa.M Go.Proofs.Ytgkjkgooonicbaa.O

def laysB_ren : Go.Shelf.Ren := ⟨fun | 41 => 20 | n => n, fun | 22 => 29 | 23 => 5 | 4 => 4 | n => n, fun | n => n⟩
theorem laysB : Go.Proofs.SlLaysE0.n41 Try.prog laysB_ren := {
  mixed := by kernel_rfl
  f41 := ⟨Try.f20.name, by decide, Try.func20.trans (congrArg some (by kernel_rfl))⟩
  t4 := Try.underlying4
  a4 := Try.isAgg4
  z4 := Try.sizeOf4
  v4 := Try.zeroValue4
  t22 := Try.underlying29
  a22 := Try.isAgg29
  z22 := Try.sizeOf29
  v22 := Try.zeroValue29 }
/-- slices.Clone of bytes. -/
theorem clone_bytes {w : World} {v : Value} {b : List Nat} (h : Body w v b) (hb : b.length ≤ 2000000) :
    Calls Try.prog 20 #[v] w fun e w' => ∃ v', e = .returned v' ∧ w'.ownsRow w.heap.size 5 1 v' b.length (bys b) ∧ Upd [] w w' := by
  obtain ⟨i5, hi, hz0, hz1, hz2⟩ := info_parts info5
  obtain ⟨a, k, e, h1, h2, hx, h3⟩ := h
  subst e
  cases a with
  | none =>
    have h0 : b = [] := by
      cases b with
      | nil => rfl
      | cons x l =>
        obtain ⟨g, o, e', -⟩ := h3 0 (by simp)
        cases e'
    subst h0
    refine (Go.Proofs.AnyE.slices_Clone_nil laysB 0 k w).mono ?_
    rintro e w' ⟨rfl, rfl⟩
    exact ⟨_, rfl, World.ownsRow_nil _ _ _ _, Upd.refl _ _⟩
  | some x =>
    obtain ⟨g, o, rfl⟩ := hx x rfl
    refine (Go.Proofs.AnyE.slices_Clone laysB i5 _ 1 1 hi hz0 hz1 hz2 rfl (by decide) (fun w => by kernel_rfl) g o b.length k (bys b) w (by rw [bys_length]; omega) (by unfold maxLen; omega) (by omega) (fun j u hu => ?_) (bys_one b)).mono ?_
    · have hj : j < b.length := by have := (List.getElem?_eq_some_iff.1 hu).1; rwa [bys_length] at this
      obtain ⟨g', o', e', hc, -⟩ := h3 j hj
      cases e'
      rw [bys_get b j hj] at hu
      cases hu
      exact hc
    · rintro e w' ⟨v', rfl, ho, _, hb⟩
      exact ⟨v', rfl, ho, Upd.of_below hb []⟩
theorem clone_body {w : World} {v : Value} {b : List Nat} (h : Body w v b) (hb : b.length ≤ 2000000) :
    Calls Try.prog 20 #[v] w fun e w' => ∃ v', e = .returned v' ∧ Body w' v' b ∧ Upd [] w w' :=
  (clone_bytes h hb).mono fun _ _ ⟨v', e, ho, hu⟩ => ⟨v', e, Body.of_own ho, hu⟩

set_option maxHeartbeats 2000000 in
set_option maxRecDepth 100000 in
theorem new_any (n : Nat) (w : World) (h1 : 1 ≤ n) (h16 : n ≤ 16) :
    Calls Try.prog 43 #[.int .i64 (n : Int)] w fun e w' => ∃ F g, e = .returned (.tuple #[.pointer (some ⟨g, 0, none⟩), .int .i64 0]) ∧ IsE w' F g ⟨n, 0, [], 0, n, 0, [], false⟩ ∧ Upd [] w w' ∧ ∀ s ∈ F, w.heap.size ≤ s := by
  go_enter Try.func43, Try.ntmps43
  go_wp2_with fail
  go_ret2
  refine ⟨[w.heap.size], w.heap.size, rfl, ⟨.slice none 0 0, .slice none 0 0, [], [], ⟨blk_new w _, World.ownsRow_nil _ _ _ _, World.ownsRow_nil _ _ _ _, Bodies.nil _, Bodies.nil _, fun x hx => by cases hx⟩, rfl⟩, (Upd.refl _ _).alloc _, fun s hs => by simp at hs; omega⟩

theorem IsE0.cells {w : World} {g : Nat} {e : E} {vk vr : Value} {ks rs : List Value} (h : IsE0 w g e vk vr ks rs) :
    w.cell? ⟨g, 0, none⟩ = some (.int .i64 (e.window : Int)) ∧ w.cell? ⟨g, 1, none⟩ = some (.int .u32 (e.base : Int)) ∧ w.cell? ⟨g, 2, none⟩ = some vk ∧ w.cell? ⟨g, 3, none⟩ = some (.int .i64 (e.told : Int)) ∧ w.cell? ⟨g, 4, none⟩ = some (.int .i64 (e.limit : Int)) ∧ w.cell? ⟨g, 5, none⟩ = some (.int .u32 (e.want : Int)) ∧ w.cell? ⟨g, 6, none⟩ = some vr ∧ w.cell? ⟨g, 7, none⟩ = some (.bool e.owe) ∧ ∀ j, w.frozen? ⟨g, j, none⟩ = false :=
  ⟨(blk_cell h.blk 0).trans rfl, (blk_cell h.blk 1).trans rfl, (blk_cell h.blk 2).trans rfl, (blk_cell h.blk 3).trans rfl, (blk_cell h.blk 4).trans rfl, (blk_cell h.blk 5).trans rfl, (blk_cell h.blk 6).trans rfl, (blk_cell h.blk 7).trans rfl, blk_frozen h.blk⟩

set_option maxHeartbeats 2000000 in
set_option maxRecDepth 100000 in
theorem idle_any {w : World} {F : List Nat} {g : Nat} {e : E} (h : IsE w F g e) :
    Calls Try.prog 28 #[.pointer (some ⟨g, 0, none⟩)] w fun r w' => r = .returned (.bool (decide (e.kept.length = 0))) ∧ w' = w := by
  obtain ⟨vk, vr, ks, rs, h0, -⟩ := h
  obtain ⟨c0, c1, c2, c3, c4, c5, c6, c7, cf⟩ := h0.cells
  obtain ⟨a, k, e1, l1, l2, -⟩ := own_view h0.kept
  subst e1
  obtain ⟨n, hn⟩ : ∃ n, n = e.kept.length := ⟨_, rfl⟩
  rw [← hn] at c2 ⊢
  clear h0 hn l1
  by_cases q : n = 0
  · subst q
    go_enter Try.func28, Try.ntmps28
    go_wp2_with fail
    go_ret
    exact ⟨rfl, rfl⟩
  · have q' : ((n : Int) == 0) = false := by rw [beq_eq_false_iff_ne]; omega
    rw [decide_eq_false q]
    go_enter Try.func28, Try.ntmps28
    go_wp2_with fail
    go_ret
    exact ⟨rfl, rfl⟩
end Go.Proofs.Ytgkjkgooonicbaa.Lm
