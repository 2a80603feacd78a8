/- Small words for the walks of this seat: which blocks may have turned between two worlds, and what follows for the others. -/
import Derived.WalkKit
import Derived.Handy
import Derived.Deep.Draws
namespace Go.Proofs.Ytklacfdbpmkiiaa.K
open Go Go.RowKit

theorem hid {p : Prop} (h : p) : Hid p := h

/-- Between w and w' new blocks may have come, and the blocks of S may have turned; nothing else. -/
structure Upd (S : List Nat) (w w' : World) : Prop where
  os : w'.os = w.os
  tape : w'.tape = w.tape
  output : w'.output = w.output
  size : w.heap.size ≤ w'.heap.size
  block : ∀ k, k < w.heap.size → k ∉ S → w'.heap[k]? = w.heap[k]?

theorem Upd.refl (S : List Nat) (w : World) : Upd S w w := ⟨rfl, rfl, rfl, Nat.le_refl _, fun _ _ _ => rfl⟩
theorem Upd.trans {S T : List Nat} {a b c : World} (h : Upd S a b) (k : Upd T b c) (hT : ∀ t ∈ T, t ∈ S ∨ a.heap.size ≤ t) : Upd S a c :=
  ⟨k.os.trans h.os, k.tape.trans h.tape, k.output.trans h.output, Nat.le_trans h.size k.size, fun i hi hs =>
    (k.block i (Nat.lt_of_lt_of_le hi h.size) (fun ht => (hT i ht).elim hs (fun hle => by omega))).trans (h.block i hi hs)⟩
theorem Upd.mono {S T : List Nat} {a b : World} (h : Upd S a b) (hT : ∀ s ∈ S, s ∈ T ∨ a.heap.size ≤ s) : Upd T a b :=
  ⟨h.os, h.tape, h.output, h.size, fun i hi ht => h.block i hi (fun hs => (hT i hs).elim ht (fun hle => by omega))⟩
theorem Upd.drewN {S : List Nat} {a b : World} (h : Upd S a b) (n : Nat) : Upd S a (b.drewN n) := ⟨h.os, h.tape, h.output, h.size, h.block⟩
theorem Upd.drew {S : List Nat} {a b : World} (h : Upd S a b) : Upd S a b.drew := ⟨h.os, h.tape, h.output, h.size, h.block⟩
theorem Upd.alloc {S : List Nat} {a b : World} (h : Upd S a b) (o : Obj) : Upd S a (b.alloc o) :=
  ⟨h.os, h.tape, h.output, by have := h.size; simp; omega, fun k hk hs => (Below.heap_alloc _ _ _ (Nat.lt_of_lt_of_le hk h.size)).trans (h.block k hk hs)⟩
theorem Upd.setCell {S : List Nat} {a b : World} (h : Upd S a b) {p : Addr} (hp : p.block ∈ S ∨ a.heap.size ≤ p.block) (v : Value) : Upd S a (b.setCell p v) :=
  ⟨h.os, h.tape, h.output, by have := h.size; simp [World.setCell]; omega, fun k hk hs =>
    (Below.heap_setCell _ _ _ _ (fun e => by subst e; exact hp.elim hs (fun hle => by omega))).trans (h.block k hk hs)⟩
theorem Upd.grown {S : List Nat} {a b c : World} {row : Option Nat} (h : Upd S a b) (g : b.grownBy c row) (hr : ∀ k, row = some k → k ∈ S ∨ a.heap.size ≤ k) : Upd S a c :=
  ⟨g.os.trans h.os, g.tape.trans h.tape, g.output.trans h.output, Nat.le_trans h.size g.size, fun i hi hs =>
    (g.block i (Nat.lt_of_lt_of_le hi h.size) (fun e => (hr i e.symm).elim hs (fun hle => by omega))).trans (h.block i hi hs)⟩
theorem Upd.of_below {w w' : World} (h : Below w.heap.size w w') (S : List Nat) : Upd S w w' := ⟨h.os, h.tape, h.output, h.size, fun k hk _ => h.block k hk⟩
theorem Upd.below {S : List Nat} {B : Nat} {w w' : World} (h : Upd S w w') (hB : B ≤ w.heap.size) (hS : ∀ s ∈ S, B ≤ s) : Below B w w' :=
  ⟨h.os, h.tape, h.output, h.size, fun k hk => h.block k (by omega) (fun hs => by have := hS k hs; omega)⟩
theorem Upd.nil {w w' : World} (h : Upd [] w w') : Below w.heap.size w w' := h.below (Nat.le_refl _) (fun _ hs => by cases hs)
theorem Upd.then_below {S : List Nat} {a b c : World} (h : Upd S a b) (k : Below b.heap.size b c) : Upd S a c := h.trans (Upd.of_below k []) (fun _ ht => by cases ht)

theorem blk_lt {w : World} {g : Nat} {o : Obj} (h : w.heap[g]? = some o) : g < w.heap.size := (Array.getElem?_eq_some_iff.1 h).1
theorem Upd.blk {S : List Nat} {w w' : World} (h : Upd S w w') {g : Nat} {o : Obj} (hg : w.heap[g]? = some o) (hs : g ∉ S) : w'.heap[g]? = some o := (h.block g (blk_lt hg) hs).trans hg
theorem Upd.cell {S : List Nat} {w w' : World} (h : Upd S w w') {a : Addr} {v : Value} (hc : w.cell? a = some v) (hs : a.block ∉ S) : w'.cell? a = some v :=
  (World.cell?_of_block (h.block a.block (World.block_lt_of_cell? w a hc) hs)).trans hc

theorem blk_set {w : World} {g : Nat} {t : TypeId} {cs : Array Value} (h : w.heap[g]? = some (.cells cs t (0, 0))) (i : Nat) (u : Value) : (w.setCell ⟨g, i, none⟩ u).heap[g]? = some (.cells (cs.setIfInBounds i u) t (0, 0)) := by
  show (w.heap.modify g _)[g]? = _
  rw [Array.getElem?_modify, if_pos rfl, h]; rfl
theorem blk_far {w : World} {g : Nat} {o : Obj} (h : w.heap[g]? = some o) {p : Addr} (hp : g ≠ p.block) (u : Value) : (w.setCell p u).heap[g]? = some o := (Below.heap_setCell w p u g hp).trans h
theorem blk_cell {w : World} {g : Nat} {t : TypeId} {cs : Array Value} (h : w.heap[g]? = some (.cells cs t (0, 0))) (i : Nat) : w.cell? ⟨g, i, none⟩ = cs[i]? := by simp [World.cell?, h]
theorem blk_frozen {w : World} {g : Nat} {t : TypeId} {cs : Array Value} (h : w.heap[g]? = some (.cells cs t (0, 0))) (i : Nat) : w.frozen? ⟨g, i, none⟩ = false := by simp [World.frozen?, h]
theorem blk_ne {w : World} {g g' : Nat} {t t' : TypeId} {cs cs' : Array Value} {f f' : Nat × Nat} (h : w.heap[g]? = some (.cells cs t f)) (h' : w.heap[g']? = some (.cells cs' t' f')) (hne : t ≠ t') : g ≠ g' := fun e => by
  subst e; rw [h] at h'; simp at h'; exact hne h'.2.1
theorem blk_new (w : World) (o : Obj) : (w.alloc o).heap[w.heap.size]? = some o := by show (w.heap.push o)[_]? = _; simp
theorem blk_alloc {w : World} {g : Nat} {o : Obj} (h : w.heap[g]? = some o) (x : Obj) : (w.alloc x).heap[g]? = some o := (Below.heap_alloc _ _ _ (blk_lt h)).trans h

/-- The slice's cells hold these numbers. -/
def IntRow (w : World) (a : Option Addr) (xs : List Int) : Prop := ∀ i, i < xs.length → ∃ x, a = some x ∧ w.cell? (x.add i) = some (.int .i64 (xs.getD i 0))
/-- A slice of whole numbers that came in (as the row's shell tells it): its elements, and their number. -/
theorem IntRow.of_row {w : World} {a : Option Addr} {len cap : Nat} {zs : List Int} (h : (a = none ∧ len = 0 ∧ cap = 0 ∧ zs = []) ∨
    ∃ x, a = some x ∧ len ≤ cap ∧ cap ≤ maxLen ∧ zs.length = cap ∧ (∀ i, i < zs.length → w.cell? (x.add i) = some (.int .i64 (zs.getD i 0))) ∧ ∀ n ∈ zs, (Lit.int .i64 n).wf = true) :
    IntRow w a (zs.take len) ∧ (zs.take len).length = len ∧ len ≤ cap ∧ cap ≤ 9223372036854775807 ∧ ∀ n ∈ zs.take len, (Lit.int .i64 n).wf = true := by
  rcases h with ⟨rfl, rfl, rfl, rfl⟩ | ⟨x, rfl, h1, h2, h3, h4, h5⟩
  · exact ⟨fun i hi => by simp at hi, rfl, Nat.le_refl _, by omega, fun n hn => by simp at hn⟩
  · unfold maxLen at h2
    refine ⟨fun i hi => ⟨x, rfl, ?_⟩, by simp; omega, h1, h2, fun n hn => h5 n (List.mem_of_mem_take hn)⟩
    have hi' : i < len ∧ i < zs.length := by simp at hi; omega
    rw [h4 i hi'.2]
    simp [List.getD_eq_getElem?_getD, hi'.1]
theorem IntRow.upd {w w' : World} {a : Option Addr} {xs : List Int} (h : IntRow w a xs) (u : Upd [] w w') : IntRow w' a xs := fun i hi =>
  let ⟨x, e, hc⟩ := h i hi; ⟨x, e, u.cell hc (by simp)⟩
theorem IntRow.take {w : World} {a : Option Addr} {xs : List Int} (h : IntRow w a xs) (m : Nat) : IntRow w a (xs.take m) := fun i hi => by
  have hi' : i < m ∧ i < xs.length := by simp at hi; omega
  obtain ⟨x, e, hc⟩ := h i hi'.2
  refine ⟨x, e, ?_⟩
  rw [hc]; simp [List.getD_eq_getElem?_getD, hi'.1]

/-- What Rest answers, for a positive n. -/
def restN (a n : Int) : Nat := ((IntKind.u64.wrap a) % n).toNat
theorem restN_lt (a n : Int) (h : 1 ≤ n) : (restN a n : Int) < n := by
  unfold restN
  have := Int.emod_nonneg (IntKind.u64.wrap a) (b := n) (by omega)
  have := Int.emod_lt_of_pos (IntKind.u64.wrap a) (b := n) (by omega)
  omega
theorem restN_eq (a n : Int) (h : 1 ≤ n) : (restN a n : Int) = (IntKind.u64.wrap a) % n := by
  unfold restN
  have := Int.emod_nonneg (IntKind.u64.wrap a) (b := n) (by omega)
  omega

theorem min_nat (ats : Array TypeId) (ty : TypeId) (k k' : IntKind) (x y : Int) (r : Nat) (h : min x y = (r : Int)) : Builtin.min_ ats ty #[.int k x, .int k' y] = pure (.int k (r : Int)) := by
  have e : (if y < x then y else x) = min x y := by split <;> omega
  simp only [Builtin.min_, List.foldlM_cons, List.foldlM_nil, Builtin.min2, e, h]; rfl
theorem max_nat (ats : Array TypeId) (ty : TypeId) (k k' : IntKind) (x y : Int) (r : Nat) (h : max x y = (r : Int)) : Builtin.max_ ats ty #[.int k x, .int k' y] = pure (.int k (r : Int)) := by
  have e : (if x < y then y else x) = max x y := by split <;> omega
  simp only [Builtin.max_, List.foldlM_cons, List.foldlM_nil, Builtin.max2, gt_iff_lt, e, h]; rfl

theorem ret_int {k : IntKind} {a b : Int} (h : a = b) : Ending.returned (.int k a) = .returned (.int k b) := by rw [h]
theorem ret_bool {a b : Bool} (h : a = b) : Ending.returned (.bool a) = .returned (.bool b) := by rw [h]
end Go.Proofs.Ytklacfdbpmkiiaa.K
