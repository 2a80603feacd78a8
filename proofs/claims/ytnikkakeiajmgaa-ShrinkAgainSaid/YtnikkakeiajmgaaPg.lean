/- Blocks of cells; bounds of the rounds. -/
import Derived.Test.YtnikkakeiajmgaaPf
namespace Go.Proofs.Ytnikkakeiajmgaa.Pa
open Go Go.RowKit Go.Proofs.Ytnikkakeiajmgaa Go.Proofs.Ytnikkakeiajmgaa.K Go.Proofs.Ytnikkakeiajmgaa.M Go.Proofs.Ytnikkakeiajmgaa.O Go.Proofs.Ytnikkakeiajmgaa.R Go.Proofs.Ytnikkakeiajmgaa.Pt

theorem addz (r j : Nat) : (⟨r, 0, none⟩ : Addr).add j = ⟨r, j, none⟩ := by unfold Addr.add; split <;> simp_all
/-- A block of n cells. -/
def Arr (w : World) (C : Nat) (t : TypeId) (n : Nat) (f : Nat → Value) : Prop := ∃ cs : Array Value, w.heap[C]? = some (.cells cs t (0, 0)) ∧ n ≤ cs.size ∧ ∀ z, z < n → cs[z]? = some (f z)
section
variable {w w' : World} {C : Nat} {t : TypeId} {n : Nat} {f : Nat → Value}
theorem Arr.cell (h : Arr w C t n f) {z : Nat} (hz : z < n) : w.cell? ⟨C, z, none⟩ = some (f z) := by
  obtain ⟨cs, hb, _, hc⟩ := h; exact (blk_cell hb z).trans (hc z hz)
theorem Arr.val (h : Arr w C t n f) {z : Nat} (hz : z < n) {v : Value} (he : f z = v) : w.cell? ⟨C, z, none⟩ = some v := by rw [← he]; exact h.cell hz
theorem Arr.fro (h : Arr w C t n f) (z : Nat) : w.frozen? ⟨C, z, none⟩ = false := by
  obtain ⟨cs, hb, _, hc⟩ := h; exact blk_frozen hb z
theorem Arr.set (h : Arr w C t n f) (i : Nat) (v : Value) : Arr (w.setCell ⟨C, i, none⟩ v) C t n (fun z => if z = i then v else f z) := by
  obtain ⟨cs, hb, hs, hc⟩ := h
  refine ⟨_, blk_set hb i _, by simpa using hs, fun z hz => ?_⟩
  by_cases e : z = i
  · subst e; rw [Array.getElem?_setIfInBounds_self_of_lt (by omega)]; simp
  · rw [Array.getElem?_setIfInBounds_ne (Ne.symm e), hc z hz]; simp [e]
theorem Arr.upd {S : List Nat} (h : Arr w C t n f) (u : Upd S w w') (hs : C ∉ S) : Arr w' C t n f := by
  obtain ⟨cs, hb, hz, hc⟩ := h; exact ⟨cs, u.blk hb hs, hz, hc⟩
theorem Arr.alloc (h : Arr w C t n f) (o : Obj) : Arr (w.alloc o) C t n f := by
  obtain ⟨cs, hb, hs, hc⟩ := h; exact ⟨cs, blk_alloc hb o, hs, hc⟩
theorem Arr.lt (h : Arr w C t n f) : C < w.heap.size := by obtain ⟨cs, hb, hs, hc⟩ := h; exact K.blk_lt hb
theorem Arr.congr {g : Nat → Value} (h : Arr w C t n f) (hg : ∀ z, z < n → g z = f z) : Arr w C t n g := by
  obtain ⟨cs, hb, hs, hc⟩ := h; exact ⟨cs, hb, hs, fun z hz => by rw [hc z hz, hg z hz]⟩
theorem Arr.own {B e s m : Nat} {v : Value} {xs : List Value} (h : Arr w C t n f) (ho : w.ownsRow B e s v m xs) (he : e ≠ t) (u : Upd v.ownBlock.toList w w') : Arr w' C t n f := by
  obtain ⟨cs, hb, hz, hc⟩ := h
  exact ⟨cs, u.blk hb (fun hs => own_cells_ne ho hb he C (by simpa using hs) rfl), hz, hc⟩
theorem arr_new (w : World) (vs : List Value) (t : TypeId) (n : Nat) (f : Nat → Value) (hn : vs.length = n) (hf : ∀ z, z < n → vs[z]? = some (f z)) : Arr (w.alloc (.cells vs.toArray t)) w.heap.size t n f :=
  ⟨_, blk_new w _, by simp [hn], fun z hz => by simpa using hf z hz⟩
end
theorem info3 : (Try.prog.info? 3).map (fun i => (i.zero, i.size, i.bytes)) = some (some (.int .i64 0), 1, 8) := by kernel_rfl
theorem makeI (n : Nat) (hn : n ≤ 200) : ∀ w, (Instr.makeSlice 22 (.int .i64 (n : Int)) (.int .i64 (n : Int))).run Try.prog w = .ok (.slice (some ⟨w.heap.size, 0, none⟩) n n) (w.alloc (.cells (List.replicate n (.int .i64 0)).toArray 3)) := fun w => by
  obtain ⟨i4, h4, hz0, hz1, hz2⟩ := info_parts info3
  have := run_make (P := Try.prog) w 22 3 i4 _ Try.underlying22 h4 hz0 .i64 .i64 (n : Int) (n : Int) (by omega) (by omega) (by rw [hz2]; omega) (by omega)
  rw [this, Int.toNat_natCast, hz1, Nat.mul_one]
  have e : madeCells (Value.int .i64 0).cells n = (List.replicate n (Value.int .i64 0)).toArray := by
    apply Array.ext'
    rw [show (Value.int .i64 0).cells = #[.int .i64 0] from rfl, toList_madeCells_one]
  rw [e]

/-- The rounds so far: of those ahead of i, of i, and noughts. -/
def atF (P : List (St × Nat)) (i m z : Nat) : Nat := if z < i then (P.getD z (default, 0)).2 else if z = i then m else 0
theorem atF_next (P : List (St × Nat)) (s : St) (lv i z : Nat) (h : P.length = i) : atF (P ++ [(s, lv)]) (i + 1) 0 z = atF P i lv z := by
  unfold atF
  by_cases c : z < i
  · rw [if_pos (by omega), if_pos c, getD_snoc, if_neg (by omega)]
  · rw [if_neg c]
    by_cases c2 : z = i
    · rw [if_pos (by omega), if_pos c2, getD_snoc, if_pos (by omega)]
    · rw [if_neg (by omega), if_neg c2]
      split <;> rfl
theorem pairs_len (l : List St) : (pairs depS l).length = l.length := by have := congrArg List.length (pairs_fst depS l); rwa [List.length_map] at this
theorem pairs_step (l : List St) (i : Nat) (h : i < l.length) : pairs depS (l.take (i + 1)) = pairs depS (l.take i) ++ [(l[i], lvOf depS (pairs depS (l.take i)) l[i])] := by
  rw [List.take_succ_eq_append_getElem h, pairs_snoc]
theorem lv_or {dep : St → St → Bool} (P : List (St × Nat)) (s : St) : lvOf dep P s = 0 ∨ ∃ p ∈ P, dep p.1 s = true ∧ lvOf dep P s = p.2 + 1 := by
  obtain ⟨-, -, h3⟩ := fold_ge dep s P 0
  rcases h3 with e | ⟨p, hp, hd, e⟩
  · exact .inl e
  · exact .inr ⟨p, hp, hd, e⟩
theorem lv_lt : ∀ (n : Nat) (l : List St), l.length = n → ∀ p ∈ pairs depS l, p.2 < n
  | 0, l, h, p, hp => by
    have : l = [] := List.eq_nil_of_length_eq_zero h
    subst this; cases hp
  | n + 1, l, h, p, hp => by
    have hn : n < l.length := by omega
    have e : pairs depS l = pairs depS (l.take (n + 1)) := by rw [List.take_of_length_le (by omega)]
    rw [e, pairs_step l n hn] at hp
    have ih := lv_lt n (l.take n) (by rw [List.length_take]; omega)
    rcases List.mem_append.1 hp with hp | hp
    · have := ih p hp; omega
    · simp only [List.mem_singleton] at hp
      subst hp
      show lvOf depS (pairs depS (l.take n)) l[n] < n + 1
      rcases lv_or (dep := depS) (pairs depS (l.take n)) l[n] with e | ⟨q, hq, -, e⟩
      · omega
      · have := ih q hq; omega
theorem lv_bound (l : List St) (s : St) (k : Nat) : lvOf depS ((pairs depS l).take k) s ≤ l.length := by
  rcases lv_or (dep := depS) ((pairs depS l).take k) s with e | ⟨q, hq, -, e⟩
  · omega
  · have := lv_lt _ l rfl q (List.mem_of_mem_take hq); omega
theorem ur_len {l : List St} {R : List (List St)} (h : URounds (pairs depS l) R) : R.length ≤ l.length := by
  by_cases c : R.length = 0
  · omega
  · have h1 := h.ne (R.length - 1) (by omega)
    rw [h.eq] at h1
    obtain ⟨s, hs⟩ := List.exists_mem_of_ne_nil _ h1
    have := lv_lt _ l rfl _ (mem_round.1 hs)
    simp only at this
    omega
theorem lv_next (P : List (St × Nat)) (s : St) (k : Nat) (h : k < P.length) : lvOf depS (P.take (k + 1)) s = if depS P[k].1 s = true then max (lvOf depS (P.take k) s) (P[k].2 + 1) else lvOf depS (P.take k) s := by
  rw [List.take_succ_eq_append_getElem h, lvOf_snoc]
theorem pairs_get (l : List St) (k : Nat) (h : k < (pairs depS l).length) : (pairs depS l)[k].1 = l[k]'(by rw [← pairs_len]; exact h) := by
  have e := pairs_fst depS l
  have : ((pairs depS l).map (·.1))[k]? = l[k]? := by rw [e]
  rw [List.getElem?_map, List.getElem?_eq_getElem h, List.getElem?_eq_getElem (by rw [← pairs_len]; exact h)] at this
  simpa using this
end Go.Proofs.Ytnikkakeiajmgaa.Pa
