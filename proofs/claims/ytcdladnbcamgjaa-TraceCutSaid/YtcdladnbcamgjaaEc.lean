/- slices.Clone at events: contract; events in a row that a call itself made, two of them exchanged. -/
import Derived.Test.YtcdladnbcamgjaaSwT
import Derived.Test.YtcdladnbcamgjaaHa
namespace Go.Proofs.Ytcdladnbcamgjaa.Ec
open Go Go.RowKit Go.Proofs Go.Proofs.Ytcdladnbcamgjaa.K Go.Proofs.Ytcdladnbcamgjaa.M Go.Proofs.Ytcdladnbcamgjaa.Ev Go.Proofs.Ytcdladnbcamgjaa.Ck Go.Proofs.Ytcdladnbcamgjaa.O Go.Proofs.Ytcdladnbcamgjaa.CL Go.Proofs.Ytcdladnbcamgjaa.Th Go.Proofs.Ytcdladnbcamgjaa.Hi Go.Proofs.Ytcdladnbcamgjaa.Cu Go.Proofs.Ytcdladnbcamgjaa.Ha Go.Proofs.Ytcdladnbcamgjaa.SwT

def laysEv_ren : Go.Shelf.Ren := ⟨fun | 41 => 27 | n => n, fun | 22 => 24 | 23 => 31 | 4 => 4 | n => n, fun | n => n⟩
theorem laysEv : Go.Proofs.SlLaysE0.n41 Try.prog laysEv_ren := {
  mixed := by kernel_rfl
  f41 := ⟨Try.f27.name, by decide, Try.func27.trans (congrArg some (by kernel_rfl))⟩
  t4 := Try.underlying4
  a4 := Try.isAgg4
  z4 := Try.sizeOf4
  v4 := Try.zeroValue4
  t22 := Try.underlying24
  a22 := Try.isAgg24
  z22 := Try.sizeOf24
  v22 := Try.zeroValue24 }

theorem evCells_one (l : List Ev) : ∀ u ∈ evCells l, u.oneCell' = true := fun u hu => by
  unfold evCells at hu
  obtain ⟨e, _, h⟩ := List.mem_flatMap.1 hu
  exact evVals_one e u h
theorem evRow_cell {w : World} {g : Nat} {l : List Ev} (h : EvRow w (some ⟨g, 0, none⟩) l) (j : Nat) (u : Value) (hu : (evCells l)[j]? = some u) : w.cell? ⟨g, j, none⟩ = some u := by
  have hj : j < l.length * 3 := by
    have := (List.getElem?_eq_some_iff.1 hu).1
    rwa [evCells_length] at this
  have hd : j / 3 < l.length := by omega
  obtain ⟨g', e, c0, c1, c2⟩ := h (j / 3) hd
  cases e
  obtain ⟨d0, d1, d2⟩ := evCells_get l (j / 3) hd
  rcases (show j = j / 3 * 3 ∨ j = j / 3 * 3 + 1 ∨ j = j / 3 * 3 + 2 by omega) with e | e | e
  · rw [e] at hu ⊢; rw [d0] at hu; rw [c0]; exact hu
  · rw [e] at hu ⊢; rw [d1] at hu; rw [c1]; exact hu
  · rw [e] at hu ⊢; rw [d2] at hu; rw [c2]; exact hu

theorem cloneEv (g cc : Nat) (l : List Ev) (w : World) (h : EvRow w (some ⟨g, 0, none⟩) l) (hn : l.length ≤ 1000) (h0 : 0 < l.length) :
    Calls Try.prog 27 #[.slice (some ⟨g, 0, none⟩) l.length cc] w fun e w' => ∃ g' c', e = .returned (.slice (some ⟨g', 0, none⟩) l.length c') ∧ w'.ownsRow w.heap.size 31 3 (.slice (some ⟨g', 0, none⟩) l.length c') l.length (evCells l) ∧ l.length ≤ c' ∧ c' ≤ 9223372036854775807 ∧ w.heap.size ≤ g' ∧ Upd [] w w' := by
  obtain ⟨i31, hi, hz0, hz1, hz2⟩ := info_parts info31
  refine (Go.Proofs.AnyE.slices_Clone laysEv i31 _ 3 24 hi hz0 hz1 hz2 rfl (by decide) (fun w => by kernel_rfl) g 0 l.length cc (evCells l) w (by rw [evCells_length]) (by unfold maxLen; omega) (by omega) (fun j u hu => by rw [Nat.zero_add]; exact evRow_cell h j u hu) (evCells_one l)).mono ?_
  rintro e w' ⟨v', rfl, ho, _, hb⟩
  have ho' : w'.ownsRow w.heap.size 31 3 v' l.length (evCells l) := ho
  obtain ⟨a, c, rfl, h1, h2, h3⟩ := own_view ho'
  obtain ⟨d0, _⟩ := evCells_get l 0 h0
  obtain ⟨g', rfl, hg, _⟩ := h3 (0 * 3) _ d0
  exact ⟨g', c, rfl, ho', h1, h2, hg, Upd.of_below hb []⟩

/-- A row of events that a call itself made. -/
def Evs (w : World) (g n c : Nat) (l : List Ev) : Prop := l.length = n ∧ ∃ B, w.ownsRow B 31 3 (.slice (some ⟨g, 0, none⟩) n c) n (evCells l)
theorem Evs.row {w : World} {g n c : Nat} {l : List Ev} (h : Evs w g n c l) : EvRow w (some ⟨g, 0, none⟩) l := by
  obtain ⟨hl, B, h⟩ := h
  rw [← hl] at h
  obtain ⟨a, cap, e, _, _, hr⟩ := evRow_of h
  cases e; exact hr
theorem Evs.drew {w : World} {g n c : Nat} {l : List Ev} (h : Evs w g n c l) : Evs w.drew g n c l := h
theorem Evs.fro {w : World} {g n c : Nat} {l : List Ev} (h : Evs w g n c l) (j : Nat) : w.frozen? ⟨g, j, none⟩ = false := by
  obtain ⟨hl, B, h⟩ := h
  obtain ⟨cur, hg⟩ := own_block h g rfl
  exact K.blk_frozen hg j
theorem Evs.upd {S : List Nat} {w w' : World} {g n c : Nat} {l : List Ev} (h : Evs w g n c l) (u : Upd S w w') (hs : g ∉ S) : Evs w' g n c l :=
  ⟨h.1, h.2.imp fun _ h => own_upd h u (fun k hk => by cases hk; exact hs)⟩
theorem evCells_set : ∀ (l : List Ev) (i : Nat) (e : Ev), i < l.length → (((evCells l).set (i * 3) (.int .i64 (e.place : Int))).set (i * 3 + 1) (.int .i64 (e.kind : Int))).set (i * 3 + 2) (.int .i64 (e.msg : Int)) = evCells (l.set i e)
  | [], _, _, h => by simp at h
  | x :: l, 0, e, _ => by simp [evCells, evVals]
  | x :: l, i + 1, e, h => by
    have ih := evCells_set l i e (by simpa using h)
    have e0 : (i + 1) * 3 = i * 3 + 3 := by omega
    simp only [evCells, List.flatMap_cons, evVals, e0, List.cons_append, List.nil_append, List.set_cons_succ]
    simp only [evCells] at ih
    simp only [List.cons.injEq, true_and]
    exact ih
theorem Evs.set {w : World} {g n c : Nat} {l : List Ev} (h : Evs w g n c l) {i : Nat} (hi : i < n) (e : Ev) :
    Evs (((w.setCell ⟨g, i * 3, none⟩ (.int .i64 (e.place : Int))).setCell ⟨g, i * 3 + 1, none⟩ (.int .i64 (e.kind : Int))).setCell ⟨g, i * 3 + 2, none⟩ (.int .i64 (e.msg : Int))) g n c (l.set i e) := by
  obtain ⟨hl, B, h⟩ := h
  refine ⟨by rw [List.length_set]; exact hl, B, ?_⟩
  have hcl := evCells_length l
  rw [← evCells_set l i e (by omega)]
  exact row_set (row_set (row_set h (by omega) _) (by simp; omega) _) (by simp; omega) _
end Go.Proofs.Ytcdladnbcamgjaa.Ec
