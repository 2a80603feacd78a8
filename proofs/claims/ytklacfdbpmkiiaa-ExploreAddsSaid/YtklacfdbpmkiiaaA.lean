/- Blocks of cells. -/
import Derived.Test.YtklacfdbpmkiiaaO
import Derived.Deep.RegionWith
import Derived.BigRegion
import Derived.BigQuiet
import Derived.Deep.QuietTactic
import Derived.StillTailTactics
namespace Go.Proofs.Ytklacfdbpmkiiaa.A
open Go Go.RowKit Go.Proofs.Ytklacfdbpmkiiaa.K Go.Proofs.Ytklacfdbpmkiiaa.M Go.Proofs.Ytklacfdbpmkiiaa.O

/-- A block of n cells. -/
def Arr (w : World) (C : Nat) (t : TypeId) (n : Nat) (f : Nat → Value) : Prop := ∃ cs : Array Value, w.heap[C]? = some (.cells cs t (0, 0)) ∧ n ≤ cs.size ∧ ∀ z, z < n → cs[z]? = some (f z)
section
variable {w w' : World} {C : Nat} {t : TypeId} {n : Nat} {f : Nat → Value}
theorem Arr.cell (h : Arr w C t n f) {z : Nat} (hz : z < n) : w.cell? ⟨C, z, none⟩ = some (f z) := by
  obtain ⟨cs, hb, _, hc⟩ := h; exact (blk_cell hb z).trans (hc z hz)
theorem Arr.val (h : Arr w C t n f) {z : Nat} (hz : z < n) {v : Value} (he : f z = v) : w.cell? ⟨C, z, none⟩ = some v := by rw [← he]; exact h.cell hz
theorem Arr.fro (h : Arr w C t n f) (z : Nat) : w.frozen? ⟨C, z, none⟩ = false := by
  obtain ⟨cs, hb, _, hc⟩ := h; exact blk_frozen hb z
theorem Arr.set (h : Arr w C t n f) (i : Nat) (v : Value) : Arr (w.setCell ⟨C, i, none⟩ v) C t n (fun z => if z = i then v else f z) := by
  obtain ⟨cs, hb, hs, hc⟩ := h
  refine ⟨_, blk_set hb i _, by simpa using hs, fun z hz => ?_⟩
  by_cases e : z = i
  · subst e; rw [Array.getElem?_setIfInBounds_self_of_lt (by omega)]; simp
  · rw [Array.getElem?_setIfInBounds_ne (Ne.symm e), hc z hz]; simp [e]
theorem Arr.far (h : Arr w C t n f) {p : Addr} (hp : C ≠ p.block) (v : Value) : Arr (w.setCell p v) C t n f := by
  obtain ⟨cs, hb, hs, hc⟩ := h; exact ⟨cs, blk_far hb hp v, hs, hc⟩
theorem Arr.upd {S : List Nat} (h : Arr w C t n f) (u : Upd S w w') (hs : C ∉ S) : Arr w' C t n f := by
  obtain ⟨cs, hb, hz, hc⟩ := h; exact ⟨cs, u.blk hb hs, hz, hc⟩
theorem Arr.alloc (h : Arr w C t n f) (o : Obj) : Arr (w.alloc o) C t n f := by
  obtain ⟨cs, hb, hs, hc⟩ := h; exact ⟨cs, blk_alloc hb o, hs, hc⟩
theorem Arr.lt (h : Arr w C t n f) : C < w.heap.size := by obtain ⟨cs, hb, hs, hc⟩ := h; exact K.blk_lt hb
theorem Arr.congr {g : Nat → Value} (h : Arr w C t n f) (hg : ∀ z, z < n → g z = f z) : Arr w C t n g := by
  obtain ⟨cs, hb, hs, hc⟩ := h; exact ⟨cs, hb, hs, fun z hz => by rw [hc z hz, hg z hz]⟩
theorem Arr.ne {t' : TypeId} {n' : Nat} {C' : Nat} {f' : Nat → Value} (h : Arr w C t n f) (h' : Arr w C' t' n' f') (hne : t ≠ t') : C ≠ C' := by
  obtain ⟨cs, hb, _⟩ := h; obtain ⟨cs', hb', _⟩ := h'; exact blk_ne hb hb' hne
theorem arr_new (w : World) (vs : List Value) (t : TypeId) (n : Nat) (f : Nat → Value) (hn : vs.length = n) (hf : ∀ z, z < n → vs[z]? = some (f z)) : Arr (w.alloc (.cells vs.toArray t)) w.heap.size t n f :=
  ⟨_, blk_new w _, by simp [hn], fun z hz => by simpa using hf z hz⟩
theorem Arr.row {xs : List Int} (h : Arr w C t n (fun z => .int .i64 (xs.getD z 0))) (hn : xs.length = n) : IntRow w (some ⟨C, 0, none⟩) xs := fun i hi => by
  refine ⟨_, rfl, ?_⟩
  have e : (⟨C, 0, none⟩ : Addr).add i = ⟨C, i, none⟩ := by unfold Addr.add; split <;> simp_all
  rw [e]; exact h.cell (by omega)
end
/-- A region that only reads ahead of its last operations: one walk, and those last ones in their place. -/
theorem region_tail {P : Program} {id : Nat} {Q : Exit → Act → World → Prop} {a : Act} {w : World} {l : List Oper} (n : Nat) (hm : P.follows .mixedOrders = true) (hB : Region.lexTailB .any l.toArray n = true)
    (h : wpStill P l.toArray w.drew (fun a' => wpList P l.toArray Q (l.drop n) a' w.drew) (l.take n) a) : (Code.region id l.toArray true).wp P Q a w := wp_region_still_tail n hm hB h
theorem add0 (C i : Nat) : (⟨C, 0, none⟩ : Addr).add i = ⟨C, i, none⟩ := by unfold Addr.add; split <;> simp_all
theorem IntRow.arr {w : World} {C : Nat} {xs : List Int} (h : IntRow w (some ⟨C, 0, none⟩) xs) {i : Nat} (hi : i < xs.length) : w.cell? ⟨C, i, none⟩ = some (.int .i64 (xs.getD i 0)) := by
  obtain ⟨x, e, hc⟩ := h i hi
  cases e
  rw [add0] at hc; exact hc
end Go.Proofs.Ytklacfdbpmkiiaa.A
