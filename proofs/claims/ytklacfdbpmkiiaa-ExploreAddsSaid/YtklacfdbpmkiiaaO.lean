/- Rows that a call itself made: what an append leaves, how they stay, how they read. -/
import Derived.Test.YtklacfdbpmkiiaaK
import Derived.Test.YtklacfdbpmkiiaaM
import Derived.Maps.AppendAt
import Derived.Laws.AppendOwn
import Derived.Laws.OwnMore
import Derived.Laws.IdiomCopy
import Derived.OwnWalk
namespace Go.Proofs.Ytklacfdbpmkiiaa.O
open Go Go.RowKit Go.Proofs.Ytklacfdbpmkiiaa.K Go.Proofs.Ytklacfdbpmkiiaa.M

section
variable {w w' : World} {base : Nat} {e : TypeId} {size n : Nat} {v : Value} {xs : List Value}

theorem own_upd {S : List Nat} (h : w.ownsRow base e size v n xs) (u : Upd S w w') (hs : ∀ k, v.ownBlock = some k → k ∉ S) : w'.ownsRow base e size v n xs := by
  refine ⟨h.1, ?_⟩
  rcases h.2 with hn | ⟨g, cap, cur, rfl, hb, hg, rest⟩
  · exact .inl hn
  · exact .inr ⟨g, cap, cur, rfl, hb, u.blk hg (hs g rfl), rest⟩
theorem own_new (h : w.ownsRow base e size v n xs) (u : Upd [] w w') : w'.ownsRow base e size v n xs := own_upd h u (fun _ _ => by simp)
theorem own_ge (h : w.ownsRow base e size v n xs) (k : Nat) (hk : v.ownBlock = some k) : base ≤ k := by
  rcases h.2 with ⟨rfl, _⟩ | ⟨g, cap, cur, rfl, hb, hg, rest⟩
  · cases hk
  · cases hk; exact hb
theorem own_block (h : w.ownsRow base e size v n xs) (k : Nat) (hk : v.ownBlock = some k) : ∃ cur, w.heap[k]? = some (.cells cur e (0, 0)) := by
  rcases h.2 with ⟨rfl, _⟩ | ⟨g, cap, cur, rfl, hb, hg, rest⟩
  · cases hk
  · cases hk; exact ⟨cur, hg⟩
theorem own_lt (h : w.ownsRow base e size v n xs) (k : Nat) (hk : v.ownBlock = some k) : k < w.heap.size := by
  obtain ⟨cur, hg⟩ := own_block h k hk; exact K.blk_lt hg
theorem own_cells_ne (h : w.ownsRow base e size v n xs) {g : Nat} {cs : Array Value} {t : TypeId} {f : Nat × Nat} (hg : w.heap[g]? = some (.cells cs t f)) (ht : e ≠ t) : ∀ k, v.ownBlock = some k → k ≠ g := fun k hk he => by
  obtain ⟨cur, hk2⟩ := own_block h k hk; subst he; rw [hk2] at hg; simp at hg; exact ht hg.2.1
theorem own_map_ne (h : w.ownsRow base e size v n xs) {b : Nat} {m : Mp} (hm : IsMap w b m) : ∀ k, v.ownBlock = some k → k ≠ b := fun k hk he => by
  obtain ⟨cur, hk2⟩ := own_block h k hk; obtain ⟨es, c, hb, _⟩ := hm; subst he; rw [hk2] at hb; cases hb
theorem own_own_ne {b' : Nat} {e' : TypeId} {s' n' : Nat} {v' : Value} {xs' : List Value} (h : w.ownsRow base e size v n xs) (h' : w.ownsRow b' e' s' v' n' xs') (ht : e ≠ e') : ∀ k, v.ownBlock = some k → ∀ k', v'.ownBlock = some k' → k ≠ k' := fun k hk k' hk' => by
  obtain ⟨cur, hg⟩ := own_block h' k' hk'
  exact own_cells_ne h hg ht k hk
theorem own_mono {b' : Nat} (h : w.ownsRow base e size v n xs) (hb : b' ≤ base) : w.ownsRow b' e size v n xs := by
  refine ⟨h.1, ?_⟩
  rcases h.2 with hn | ⟨g, cap, cur, rfl, hg, rest⟩
  · exact .inl hn
  · exact .inr ⟨g, cap, cur, rfl, by omega, rest⟩

/-- What an owned row's value is, and its cells. -/
theorem own_view (h : w.ownsRow base e size v n xs) : ∃ a cap, v = .slice a n cap ∧ n ≤ cap ∧ cap ≤ 9223372036854775807 ∧
    (∀ i u, xs[i]? = some u → ∃ g, a = some ⟨g, 0, none⟩ ∧ base ≤ g ∧ w.cell? ⟨g, i, none⟩ = some u ∧ ∀ j, w.frozen? ⟨g, j, none⟩ = false) := by
  rcases h.2 with ⟨rfl, rfl⟩ | ⟨g, cap, cur, rfl, hb, hg, h1, h2, h3, h4⟩
  · refine ⟨none, 0, rfl, Nat.le_refl _, by omega, fun i u hi => ?_⟩
    have : xs.length = 0 := by rw [h.1]; simp
    have : xs = [] := List.eq_nil_of_length_eq_zero this
    subst this; cases hi
  · unfold maxLen at h2
    refine ⟨some ⟨g, 0, none⟩, cap, rfl, h1, h2, fun i u hi => ⟨g, rfl, hb, ?_, fun j => by simp [World.frozen?, hg]⟩⟩
    rw [K.blk_cell hg, ← Array.getElem?_toList]
    rw [← h4, List.getElem?_take] at hi
    split at hi
    · exact hi
    · cases hi
end

theorem row_set {w : World} {base g cap : Nat} {e : TypeId} {size n : Nat} {xs : List Value} (h : w.ownsRow base e size (.slice (some ⟨g, 0, none⟩) n cap) n xs) {i : Nat} (_hi : i < xs.length) (u : Value) :
    (w.setCell ⟨g, i, none⟩ u).ownsRow base e size (.slice (some ⟨g, 0, none⟩) n cap) n (xs.set i u) := by
  refine ⟨by simpa using h.1, ?_⟩
  rcases h.2 with ⟨hn, _⟩ | ⟨g', cap', cur, hv, hb, hg, h1, h2, h3, h4⟩
  · cases hn
  · simp only [Value.slice.injEq, Option.some.injEq, Addr.mk.injEq, and_true, true_and] at hv
    obtain ⟨rfl, rfl⟩ := hv
    refine .inr ⟨g, cap, cur.setIfInBounds i u, rfl, hb, K.blk_set hg i u, h1, h2, by simpa using h3, ?_⟩
    rw [Array.toList_setIfInBounds, List.take_set, h4]

/-- Cells that are written one behind the other. -/
theorem cells_far {g : Nat} : ∀ (vs : List Value) (o : Nat) {w : World} (k : Nat), k ≠ g → (w.setCells g o vs).heap[k]? = w.heap[k]?
  | [], _, _, _, _ => rfl
  | v :: r, o, w, k, hk => by
    rw [World.setCells, cells_far r (o + 1) k hk]
    exact Below.heap_setCell w ⟨g, o, none⟩ v k hk
theorem cells_upd (g : Nat) : ∀ (vs : List Value) (o : Nat) {S : List Nat} {w0 w : World}, Upd S w0 w → (g ∈ S ∨ w0.heap.size ≤ g) → Upd S w0 (w.setCells g o vs)
  | [], _, _, _, _, h, _ => h
  | v :: r, o, _, _, _, h, hg => cells_upd g r (o + 1) (h.setCell (p := ⟨g, o, none⟩) hg v) hg
theorem row_setCells {base g cap : Nat} {e : TypeId} {size n : Nat} : ∀ (vs : List Value) (o : Nat) {w : World} {xs : List Value}, w.ownsRow base e size (.slice (some ⟨g, 0, none⟩) n cap) n xs → o + vs.length ≤ xs.length →
    (w.setCells g o vs).ownsRow base e size (.slice (some ⟨g, 0, none⟩) n cap) n (xs.take o ++ vs ++ xs.drop (o + vs.length))
  | [], o, w, xs, h, _ => by simpa [World.setCells] using h
  | v :: r, o, w, xs, h, hl => by
    simp only [List.length_cons] at hl
    have h2 := row_set h (i := o) (by omega) v
    have := row_setCells r (o + 1) h2 (by simp; omega)
    rw [World.setCells]
    have ho : o < xs.length := by omega
    have e1 : (xs.set o v).take (o + 1) ++ r = xs.take o ++ v :: r := by
      rw [List.take_succ_eq_append_getElem (by simpa using ho), List.take_set, List.set_eq_of_length_le (by simp; omega)]; simp
    have e2 : (xs.set o v).drop (o + 1 + r.length) = xs.drop (o + (r.length + 1)) := by
      rw [List.drop_set_of_lt (by omega), show o + 1 + r.length = o + (r.length + 1) by omega]
    rw [e1, e2] at this
    exact this
/-- The first m elements of an owned row. -/
theorem row_take {w : World} {base g cap : Nat} {e : TypeId} {size n m : Nat} {xs : List Value} (h : w.ownsRow base e size (.slice (some ⟨g, 0, none⟩) n cap) n xs) (hm : m ≤ n) :
    w.ownsRow base e size (.slice (some ⟨g, 0, none⟩) m cap) m (xs.take (m * size)) := by
  have hms : m * size ≤ n * size := Nat.mul_le_mul_right _ hm
  refine ⟨by rw [List.length_take, h.1]; omega, ?_⟩
  rcases h.2 with ⟨hn, _⟩ | ⟨g', cap', cur, hv, hb, hg, h1, h2, h3, h4⟩
  · cases hn
  · simp only [Value.slice.injEq, Option.some.injEq, Addr.mk.injEq, and_true, true_and] at hv
    obtain ⟨rfl, rfl⟩ := hv
    exact .inr ⟨g, cap, cur, rfl, hb, hg, by omega, h2, h3, by rw [← h4, List.take_take, Nat.min_eq_left hms]⟩

/-- 'append(s, x)', x one element that was just laid in a block of its own. -/
theorem wpList_app {P : Program} {W : World} {ops : Array Oper} {rest : List Oper} {o : Oper} {a : Act} {Q : Exit → Act → World → Prop} (hgd : o.guard = none) (s x : Operand) (t : TypeId)
    (ho : o.op = .call { callee := .builtin .append, args := #[s, x], argTypes := #[t, t] })
    (base : Nat) (e : TypeId) (i : TypeInfo) (z : Value) (size bytes : Nat) (ht : P.underlying t = some (.slice e)) (hi : P.info? e = some i) (hz : i.zero = some z)
    (hsize : i.size = size) (hby : i.bytes = bytes) (hzs : z.cells.size = size) (hsz : 0 < size)
    (v : Value) (n : Nat) (xs : List Value) (hs : a.eval s = v) (hown : W.ownsRow base e size v n xs)
    (news : List Value) (ct : TypeId) (hx : a.eval x = .slice (some ⟨W.heap.size, 0, none⟩) 1 1) (hl : news.length = size) (h1 : ∀ u ∈ news, u.oneCell' = true)
    (h63 : n < 9223372036854775807) (hbytes : (n + 1) * bytes ≤ 140737488355328) (hbase : base ≤ W.heap.size)
    (h : ∀ v' w', w'.ownsRow base e size v' (n + 1) (xs ++ news) → Upd v.ownBlock.toList W w' → (∀ k, v'.ownBlock = some k → v.ownBlock = some k ∨ W.heap.size ≤ k) → wpList P ops Q rest (a.put o.dst v') w') :
    wpList P ops Q (o :: rest) a (W.alloc (.cells news.toArray ct)) := by
  refine wpList_append_own_at (w := W.alloc (.cells news.toArray ct)) hgd s x t ho base e i z size bytes ht hi hz hsize hby hzs hsz v n xs hs (hown.alloc _) ⟨W.heap.size, 0, none⟩ 1 1 news hx (by omega) ?_ h1 (by unfold maxLen; omega) hbytes (by simp; omega) ?_
  · intro j u hj
    have e : (⟨W.heap.size, 0, none⟩ : Addr).add j = ⟨W.heap.size, j, none⟩ := by unfold Addr.add; split <;> simp_all
    rw [e, K.blk_cell (blk_new W _)]; simpa using hj
  · intro v' w' r1 r2 _ r4
    refine h v' w' r1 (((Upd.refl _ W).alloc _).grown r2 (fun k hk => .inl (by simp [hk]))) (fun k hk => ?_)
    rcases r4 with r4 | r4
    · left; rw [← r4]; exact hk
    · right; rw [r4] at hk; simp at hk; omega
end Go.Proofs.Ytklacfdbpmkiiaa.O
