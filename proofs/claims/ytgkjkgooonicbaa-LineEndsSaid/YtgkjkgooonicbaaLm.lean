/- An end of a line in memory; its bodies; what a change leaves of it. -/
import Derived.Test.YtgkjkgooonicbaaProg
import Derived.Test.YtgkjkgooonicbaaO
import Derived.Test.YtgkjkgooonicbaaR
import Derived.Test.YtgkjkgooonicbaaJ
namespace Go.Proofs.Ytgkjkgooonicbaa.Lm
open Go Go.RowKit Go.Proofs.Ytgkjkgooonicbaa.K Go.Proofs.Ytgkjkgooonicbaa.M Go.Proofs.Ytgkjkgooonicbaa.O

theorem info5 : (Try.prog.info? 5).map (fun i => (i.zero, i.size, i.bytes)) = some (some (.int .u8 0), 1, 1) := by kernel_rfl
theorem info29 : (Try.prog.info? 29).map (fun i => (i.zero, i.size, i.bytes)) = some (some (.slice none 0 0), 1, 24) := by kernel_rfl
theorem info34 : (Try.prog.info? 34).map (fun i => (i.zero, i.size, i.bytes)) = some (some (.agg #[.int .u32 0, .int .u32 0, .bool false, .int .i64 0, .slice none 0 0]), 5, 48) := by kernel_rfl

def bys (l : List Nat) : List Value := l.map (fun b : Nat => Value.int .u8 (b : Int))
theorem bys_length (l : List Nat) : (bys l).length = l.length := by simp [bys]
theorem bys_get (l : List Nat) (i : Nat) (h : i < l.length) : (bys l)[i]? = some (.int .u8 ((l.getD i 0 : Nat) : Int)) := by simp [bys, List.getD_eq_getElem?_getD, h]
theorem bys_one (l : List Nat) : ∀ u ∈ bys l, u.oneCell' = true := fun u hu => by
  obtain ⟨x, _, rfl⟩ := List.mem_map.1 hu; rfl
/-- Block g holds bytes. -/
def ByteB (w : World) (g : Nat) : Prop := ∃ cur f, w.heap[g]? = some (.cells cur 5 f)
/-- A slice whose cells are these bytes. -/
def Body (w : World) (v : Value) (b : List Nat) : Prop := ∃ a k, v = .slice a b.length k ∧ b.length ≤ k ∧ k ≤ 9223372036854775807 ∧ (∀ x, a = some x → ∃ g o, x = ⟨g, o, none⟩) ∧
  ∀ i, i < b.length → ∃ g o, a = some ⟨g, o, none⟩ ∧ w.cell? ⟨g, o + i, none⟩ = some (.int .u8 ((b.getD i 0 : Nat) : Int)) ∧ ByteB w g
theorem Body.nil (w : World) : Body w (.slice none 0 0) [] := ⟨none, 0, rfl, Nat.le_refl _, by omega, (fun x hx => by cases hx), fun i hi => by simp at hi⟩
/-- None of these blocks holds bytes. -/
def NoB (w : World) (S : List Nat) : Prop := ∀ s ∈ S, ¬ ByteB w s
theorem NoB.nil (w : World) : NoB w [] := fun s hs => by cases hs
theorem Body.upd {w w' : World} {v : Value} {b : List Nat} {S : List Nat} (h : Body w v b) (u : Upd S w w') (n : NoB w S) : Body w' v b := by
  obtain ⟨a, k, e, h1, h2, hx, h3⟩ := h
  refine ⟨a, k, e, h1, h2, hx, fun i hi => ?_⟩
  obtain ⟨g, o, ea, hc, hb⟩ := h3 i hi
  have hs : g ∉ S := fun hs => n g hs hb
  obtain ⟨cur, f, hb⟩ := hb
  exact ⟨g, o, ea, u.cell hc hs, cur, f, u.blk hb hs⟩
theorem Body.of_own {w : World} {B : Nat} {v : Value} {b : List Nat} (h : w.ownsRow B 5 1 v b.length (bys b)) : Body w v b := by
  obtain ⟨a, k, e, h1, h2, h3⟩ := own_view h
  refine ⟨a, k, e, h1, h2, fun x hx => ?_, fun i hi => ?_⟩
  · subst e
    rcases h.2 with ⟨e, _⟩ | ⟨g, cap, cur, e, _⟩
    · simp only [Value.slice.injEq] at e; rw [e.1] at hx; cases hx
    · simp only [Value.slice.injEq] at e; rw [e.1] at hx; cases hx; exact ⟨_, _, rfl⟩
  obtain ⟨g, ea, _, hc, _⟩ := h3 i _ (bys_get b i hi)
  subst e
  subst ea
  obtain ⟨cur, hb⟩ := own_block h g rfl
  exact ⟨g, 0, rfl, by rw [Nat.zero_add]; exact hc, cur, (0, 0), hb⟩
def Bodies (w : World) (vs : List Value) (bs : List (List Nat)) : Prop := vs.length = bs.length ∧ ∀ i, i < bs.length → Body w (vs.getD i undef) (bs.getD i [])
theorem Bodies.nil (w : World) : Bodies w [] [] := ⟨rfl, fun i hi => by simp at hi⟩
theorem Bodies.upd {w w' : World} {vs : List Value} {bs : List (List Nat)} {S : List Nat} (h : Bodies w vs bs) (u : Upd S w w') (n : NoB w S) : Bodies w' vs bs := ⟨h.1, fun i hi => (h.2 i hi).upd u n⟩
theorem Bodies.snoc {w : World} {vs : List Value} {bs : List (List Nat)} {v : Value} {b : List Nat} (h : Bodies w vs bs) (hb : Body w v b) : Bodies w (vs ++ [v]) (bs ++ [b]) := by
  refine ⟨by simp [h.1], fun i hi => ?_⟩
  simp only [List.getD_eq_getElem?_getD]
  by_cases q : i < bs.length
  · rw [List.getElem?_append_left q, List.getElem?_append_left (by rw [h.1]; exact q)]
    simpa only [List.getD_eq_getElem?_getD] using h.2 i q
  · have e : i = bs.length := by simp at hi; omega
    subst e
    rw [List.getElem?_append_right (Nat.le_refl _), List.getElem?_append_right (by rw [h.1]; exact Nat.le_refl _), h.1]
    simpa using hb
theorem Bodies.drop {w : World} {vs : List Value} {bs : List (List Nat)} (h : Bodies w vs bs) (k : Nat) : Bodies w (vs.drop k) (bs.drop k) := by
  refine ⟨by simp [h.1], fun i hi => ?_⟩
  simp only [List.length_drop] at hi
  have := h.2 (k + i) (by omega)
  simpa only [List.getD_eq_getElem?_getD, List.getElem?_drop] using this
theorem Bodies.append {w : World} {vs us : List Value} {bs cs : List (List Nat)} (h : Bodies w vs bs) (h' : Bodies w us cs) : Bodies w (vs ++ us) (bs ++ cs) := by
  refine ⟨by simp [h.1, h'.1], fun i hi => ?_⟩
  simp only [List.getD_eq_getElem?_getD]
  by_cases q : i < bs.length
  · rw [List.getElem?_append_left q, List.getElem?_append_left (by rw [h.1]; exact q)]
    simpa only [List.getD_eq_getElem?_getD] using h.2 i q
  · have hv := h.1
    rw [List.getElem?_append_right (l₁ := bs) (by omega), List.getElem?_append_right (l₁ := vs) (by omega), hv]
    simp only [List.length_append] at hi
    simpa only [List.getD_eq_getElem?_getD] using h'.2 (i - bs.length) (by omega)
theorem Body.one {w : World} {v : Value} {b : List Nat} (h : Body w v b) : v.oneCell' = true := by
  obtain ⟨a, k, rfl, -⟩ := h; rfl
theorem Bodies.ones {w : World} {vs : List Value} {bs : List (List Nat)} (h : Bodies w vs bs) : ∀ u ∈ vs, u.oneCell' = true := fun u hu => by
  obtain ⟨i, hi, rfl⟩ := List.mem_iff_getElem.1 hu
  have := (h.2 i (by rw [← h.1]; exact hi)).one
  simpa [List.getD_eq_getElem?_getD, List.getElem?_eq_getElem hi] using this

structure E where
  window : Nat
  base : Nat
  kept : List (List Nat)
  told : Nat
  limit : Nat
  want : Nat
  read : List (List Nat)
  owe : Bool
/-- The blocks that an end may change. -/
def foot (g : Nat) (vk vr : Value) : List Nat := g :: (vk.ownBlock.toList ++ vr.ownBlock.toList)
structure IsE0 (w : World) (g : Nat) (e : E) (vk vr : Value) (ks rs : List Value) : Prop where
  blk : w.heap[g]? = some (.cells #[.int .i64 (e.window : Int), .int .u32 (e.base : Int), vk, .int .i64 (e.told : Int), .int .i64 (e.limit : Int), .int .u32 (e.want : Int), vr, .bool e.owe] 79 (0, 0))
  kept : w.ownsRow 0 29 1 vk e.kept.length ks
  read : w.ownsRow 0 29 1 vr e.read.length rs
  kb : Bodies w ks e.kept
  rb : Bodies w rs e.read
  kr : ∀ x, vk.ownBlock = some x → vr.ownBlock ≠ some x
/-- In world w the end e lies behind the pointer to block g; F: the blocks that its functions may change. -/
def IsE (w : World) (F : List Nat) (g : Nat) (e : E) : Prop := ∃ vk vr ks rs, IsE0 w g e vk vr ks rs ∧ F = foot g vk vr
theorem mem_foot {g s : Nat} {vk vr : Value} : s ∈ foot g vk vr ↔ s = g ∨ vk.ownBlock = some s ∨ vr.ownBlock = some s := by
  simp [foot]
theorem IsE0.gk {w : World} {g : Nat} {e : E} {vk vr : Value} {ks rs : List Value} (h : IsE0 w g e vk vr ks rs) : vk.ownBlock ≠ some g := fun hx => own_cells_ne h.kept h.blk (by decide) g hx rfl
theorem IsE0.gr {w : World} {g : Nat} {e : E} {vk vr : Value} {ks rs : List Value} (h : IsE0 w g e vk vr ks rs) : vr.ownBlock ≠ some g := fun hx => own_cells_ne h.read h.blk (by decide) g hx rfl
theorem IsE0.foot_at {w : World} {g : Nat} {e : E} {vk vr : Value} {ks rs : List Value} (h : IsE0 w g e vk vr ks rs) {s : Nat} (hs : s ∈ foot g vk vr) : ∃ cur t f, w.heap[s]? = some (.cells cur t f) ∧ (t = 79 ∨ t = 29) := by
  rcases mem_foot.1 hs with rfl | hs | hs
  · exact ⟨_, _, _, h.blk, .inl rfl⟩
  · obtain ⟨cur, hb⟩ := own_block h.kept s hs; exact ⟨cur, 29, _, hb, .inr rfl⟩
  · obtain ⟨cur, hb⟩ := own_block h.read s hs; exact ⟨cur, 29, _, hb, .inr rfl⟩
theorem IsE.at {w : World} {F : List Nat} {g : Nat} {e : E} (h : IsE w F g e) {s : Nat} (hs : s ∈ F) : ∃ cur t f, w.heap[s]? = some (.cells cur t f) ∧ (t = 79 ∨ t = 29) := by
  obtain ⟨vk, vr, ks, rs, h0, rfl⟩ := h; exact h0.foot_at hs
theorem IsE.noB {w : World} {F : List Nat} {g : Nat} {e : E} (h : IsE w F g e) : NoB w F := fun s hs ⟨cur, f, hb⟩ => by
  obtain ⟨cur', t, f', hb', ht⟩ := h.at hs
  rw [hb] at hb'
  rcases ht with rfl | rfl <;> simp at hb'
theorem IsE.lt {w : World} {F : List Nat} {g : Nat} {e : E} (h : IsE w F g e) {s : Nat} (hs : s ∈ F) : s < w.heap.size := by
  obtain ⟨cur, t, f, hb, -⟩ := h.at hs; exact blk_lt hb
theorem IsE.gF {w : World} {F : List Nat} {g : Nat} {e : E} (h : IsE w F g e) : g ∈ F := by
  obtain ⟨vk, vr, ks, rs, h0, rfl⟩ := h; exact mem_foot.2 (.inl rfl)
theorem IsE.upd {w w' : World} {F S : List Nat} {g : Nat} {e : E} (h : IsE w F g e) (u : Upd S w w') (hd : ∀ s ∈ S, s ∉ F) (n : NoB w S) : IsE w' F g e := by
  obtain ⟨vk, vr, ks, rs, h0, rfl⟩ := h
  refine ⟨vk, vr, ks, rs, ⟨u.blk h0.blk (fun hs => hd _ hs (mem_foot.2 (.inl rfl))), own_upd h0.kept u (fun k hk hs => hd _ hs (mem_foot.2 (.inr (.inl hk)))), own_upd h0.read u (fun k hk hs => hd _ hs (mem_foot.2 (.inr (.inr hk)))), h0.kb.upd u n, h0.rb.upd u n, h0.kr⟩, rfl⟩
theorem IsE.new {w w' : World} {F : List Nat} {g : Nat} {e : E} (h : IsE w F g e) (u : Upd [] w w') : IsE w' F g e := h.upd u (fun s hs => by cases hs) (NoB.nil w)
/-- What is new of F' lies in blocks that were not there. -/
def Fresh (w : World) (F F' : List Nat) : Prop := ∀ s ∈ F', s ∈ F ∨ w.heap.size ≤ s
theorem Fresh.refl (w : World) (F : List Nat) : Fresh w F F := fun _ hs => .inl hs
/-- Another end is not touched, and stays apart. -/
theorem IsE.apart {w w' : World} {F F' G : List Nat} {g h : Nat} {e d : E} (he : IsE w F g e) (hd : IsE w G h d) (hap : ∀ s ∈ F, s ∉ G) (u : Upd F w w') (fr : Fresh w F F') : IsE w' G h d ∧ ∀ s ∈ F', s ∉ G :=
  ⟨hd.upd u hap he.noB, fun s hs hg => (fr s hs).elim (fun q => hap s q hg) (fun q => by have := hd.lt hg; omega)⟩
end Go.Proofs.Ytgkjkgooonicbaa.Lm
