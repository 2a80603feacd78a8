/- A world of weights: what its changes leave in memory; Has, Freed. -/
import Derived.Test.YtmdhhembkmkfdaaWt
namespace Go.Proofs.Ytmdhhembkmkfdaa.Wt
open Go Go.RowKit Go.Proofs.Ytmdhhembkmkfdaa.K Go.Proofs.Ytmdhhembkmkfdaa.M Go.Proofs.Ytmdhhembkmkfdaa.O

/-- Block x holds no variable that is a pointer to a world. -/
def NoVar (w : World) (x : Nat) : Prop := ∀ cs f, w.heap[x]? ≠ some (.cells cs 59 f)
/-- Nothing below B changed, and no variable that is a pointer to a world. -/
def Old (B : Nat) (w w' : World) : Prop := ∃ S, (∀ x ∈ S, B ≤ x ∧ NoVar w x) ∧ Upd S w w'
theorem Old.refl (B : Nat) (w : World) : Old B w w := ⟨[], (fun _ h => by cases h), Upd.refl _ _⟩
theorem Old.of {B : Nat} {S : List Nat} {w w' : World} (h : ∀ x ∈ S, B ≤ x) (h' : ∀ x ∈ S, NoVar w x) (u : Upd S w w') : Old B w w' := ⟨S, fun x hx => ⟨h x hx, h' x hx⟩, u⟩
theorem Old.nil {B : Nat} {w w' : World} (u : Upd [] w w') : Old B w w' := ⟨[], (fun _ h => by cases h), u⟩
theorem Old.trans {B : Nat} {a b c : World} (h : Old B a b) (k : Old B b c) : Old B a c := by
  obtain ⟨S, h1, h2⟩ := h
  obtain ⟨T, k1, k2⟩ := k
  refine ⟨S ++ T.filter (fun t => decide (t ∉ S ∧ t < a.heap.size)), fun x hx => ?_, (h2.mono (fun s hs => .inl (by simp [hs]))).trans k2 (fun t ht => ?_)⟩
  · rcases List.mem_append.1 hx with q | q
    · exact h1 x q
    · simp only [List.mem_filter, decide_eq_true_eq] at q
      obtain ⟨q1, q2, q3⟩ := q
      refine ⟨(k1 x q1).1, fun cs f e => (k1 x q1).2 cs f ?_⟩
      exact h2.blk e q2
  · by_cases q : t ∈ S
    · exact .inl (by simp [q])
    · by_cases q2 : t < a.heap.size
      · exact .inl (by simp [ht, q, q2])
      · exact .inr (by omega)
theorem Old.upd {w w' : World} (h : Old w.heap.size w w') : Upd [] w w' := by
  obtain ⟨S, h1, h2⟩ := h
  exact h2.mono (fun s hs => .inr (h1 s hs).1)
theorem Old.after {B : Nat} {w0 w w' : World} (u : Upd [] w0 w) (h : Old B w w') (hB : w0.heap.size ≤ B) : Upd [] w0 w' := by
  obtain ⟨S, h1, h2⟩ := h
  exact u.trans h2 (fun t ht => .inr (Nat.le_trans hB (h1 t ht).1))
/-- A variable that is a pointer to a world stays. -/
theorem Old.var {B : Nat} {w w' : World} (h : Old B w w') {c : Nat} {cs : Array Value} {f : Nat × Nat} (hc : w.heap[c]? = some (.cells cs 59 f)) : w'.heap[c]? = some (.cells cs 59 f) := by
  obtain ⟨S, h1, h2⟩ := h
  exact h2.blk hc (fun hs => (h1 c hs).2 cs f hc)
theorem Old.row {B : Nat} {e : TypeId} {size n : Nat} {v : Value} {xs : List Value} {w w' : World} (h : w.ownsRow B e size v n xs) (he : e ≠ 59) (u : Upd v.ownBlock.toList w w') : Old B w w' :=
  Old.of (fun t ht => own_ge h t (by simpa using ht)) (fun t ht cs f hc => by
    obtain ⟨cur, h2⟩ := own_block h t (by simpa using ht)
    rw [h2] at hc
    simp at hc
    exact he hc.2.1) u
theorem Old.blk {B g : Nat} {cs : Array Value} {t : TypeId} {f : Nat × Nat} {w w' : World} (h : w.heap[g]? = some (.cells cs t f)) (he : t ≠ 59) (hB : B ≤ g) (u : Upd [g] w w') : Old B w w' :=
  Old.of (fun x hx => by simp at hx; subst hx; exact hB) (fun x hx cs f hc => by
    simp at hx
    subst hx
    rw [h] at hc
    simp at hc
    exact he hc.2.1) u
theorem Old.map {B b : Nat} {f : Nat → Nat} {w w' : World} (h : HasMap w b f) (hB : B ≤ b) (u : Upd [b] w w') : Old B w w' :=
  Old.of (fun x hx => by simp at hx; subst hx; exact hB) (fun x hx cs f hc => by
    simp at hx
    subst hx
    obtain ⟨m, hm, -⟩ := h
    exact hm.ne_cells hc rfl) u

theorem not_mem_own {v : Value} {k : Nat} (h : ∀ x, v.ownBlock = some x → x ≠ k) : k ∉ v.ownBlock.toList := fun hm => by
  cases e : v.ownBlock with
  | none => rw [e] at hm; simp at hm
  | some x => rw [e] at hm; simp at hm; exact h x e hm.symm
theorem not_mem_own2 {v v' : Value} (h : ∀ k, v.ownBlock = some k → ∀ k', v'.ownBlock = some k' → k ≠ k') : ∀ k, v.ownBlock = some k → k ∉ v'.ownBlock.toList := fun k hk => not_mem_own (fun x hx e => h k hk x hx e.symm)
section
variable {w w' : World} {B g : Nat} {s : Wd} {v1 v2 v3 : Value} {bs : List Nat}
theorem nodup_getD {bs : List Nat} (h : bs.Nodup) {a b : Nat} (ha : a < bs.length) (hb : b < bs.length) (hab : a ≠ b) : bs.getD a 0 ≠ bs.getD b 0 := fun e => by
  simp only [List.getD_eq_getElem?_getD, List.getElem?_eq_getElem ha, List.getElem?_eq_getElem hb, Option.getD_some] at e
  have hp := List.pairwise_iff_getElem.1 h
  rcases Nat.lt_or_gt_of_ne hab with q | q
  · exact hp a b ha hb q e
  · exact hp b a hb ha q e.symm
/-- One node's map changed. -/
theorem IsW.map_upd (h : IsW w B g s v1 v2 v3 bs) {n : Nat} (hn : n < s.nodes) {f : Nat → Nat} (hm : HasMap w' (bs.getD n 0) f) (u : Upd [bs.getD n 0] w w') : IsW w' B g { s with has := fun k => if k = n then f else s.has k } v1 v2 v3 bs := by
  obtain ⟨hb, m, hm0, -⟩ := h.maps n hn
  have hne := h.mapNe hn
  refine ⟨u.blk h.blk (by simp; exact fun e => hne e.symm), own_upd h.things u (fun k hk => by simpa using own_map_ne h.things hm0 k hk), own_upd h.has u (fun k hk => by simpa using own_map_ne h.has hm0 k hk), own_upd h.way u (fun k hk => by simpa using own_map_ne h.way hm0 k hk), h.len, fun k hk => ?_, h.dis, h.gB⟩
  have hk' : k < s.nodes := hk
  show B ≤ _ ∧ HasMap w' _ (if k = n then f else s.has k)
  by_cases e : k = n
  · subst e; rw [if_pos rfl]; exact ⟨hb, hm⟩
  · rw [if_neg e]
    obtain ⟨h1, h2⟩ := h.maps k hk'
    exact ⟨h1, h2.upd u (by simp only [List.mem_singleton]; exact nodup_getD h.dis (by rw [h.len]; exact hk') (by rw [h.len]; exact hn) e)⟩
/-- The row of what is under way is another one. -/
theorem IsW.way_upd (h : IsW w B g s v1 v2 v3 bs) {v3' : Value} {l : List Way} (ho : w'.ownsRow B 92 4 v3' l.length (wayCells l)) (u : Upd v3.ownBlock.toList w w') : IsW (w'.setCell ⟨g, 3, none⟩ v3') B g { s with way := l } v1 v2 v3' bs := by
  have hb := u.blk h.blk (not_mem_own (fun x hx => own_cells_ne h.way h.blk (by decide) x hx))
  have us : Upd [g] w' (w'.setCell ⟨g, 3, none⟩ v3') := (Upd.refl _ w').setCell (.inl (by simp)) _
  have t1 := own_upd h.things u (not_mem_own2 (own_own_ne h.things h.way (by decide)))
  have t2 := own_upd h.has u (not_mem_own2 (own_own_ne h.has h.way (by decide)))
  refine ⟨?_, own_upd t1 us (fun k hk => by simpa using own_cells_ne t1 hb (by decide) k hk), own_upd t2 us (fun k hk => by simpa using own_cells_ne t2 hb (by decide) k hk), own_upd ho us (fun k hk => by simpa using own_cells_ne ho hb (by decide) k hk), h.len, fun n hn => ?_, h.dis, h.gB⟩
  · exact (blk_set hb 3 v3').trans rfl
  · obtain ⟨h1, m, h2, h3, h4⟩ := h.maps n hn
    have hm : HasMap w' (bs.getD n 0) (s.has n) := ⟨m, h2.upd u (not_mem_own (fun x hx => own_map_ne h.way h2 x hx)), h3, h4⟩
    exact ⟨h1, hm.upd us (by simp; have := h.mapNe hn; simpa using this)⟩
theorem IsW.way_old (h : IsW w B g s v1 v2 v3 bs) (u : Upd v3.ownBlock.toList w w') (v : Value) : Old B w (w'.setCell ⟨g, 3, none⟩ v) :=
  (Old.row h.way (by decide) u).trans (Old.blk (u.blk h.blk (not_mem_own (fun x hx => own_cells_ne h.way h.blk (by decide) x hx))) (by decide) h.gB ((Upd.refl _ w').setCell (.inl (by simp)) _))
theorem IsW.things_old (h : IsW w B g s v1 v2 v3 bs) (u : Upd v1.ownBlock.toList w w') (v : Value) : Old B w (w'.setCell ⟨g, 1, none⟩ v) :=
  (Old.row h.things (by decide) u).trans (Old.blk (u.blk h.blk (not_mem_own (fun x hx => own_cells_ne h.things h.blk (by decide) x hx))) (by decide) h.gB ((Upd.refl _ w').setCell (.inl (by simp)) _))
/-- The row of things is another one. -/
theorem IsW.things_upd (h : IsW w B g s v1 v2 v3 bs) {v1' : Value} {l : List Thing} (ho : w'.ownsRow B 90 3 v1' l.length (thingCells l)) (u : Upd v1.ownBlock.toList w w') : IsW (w'.setCell ⟨g, 1, none⟩ v1') B g { s with things := l } v1' v2 v3 bs := by
  have hb := u.blk h.blk (not_mem_own (fun x hx => own_cells_ne h.things h.blk (by decide) x hx))
  have us : Upd [g] w' (w'.setCell ⟨g, 1, none⟩ v1') := (Upd.refl _ w').setCell (.inl (by simp)) _
  have t1 := own_upd h.way u (not_mem_own2 (own_own_ne h.way h.things (by decide)))
  have t2 := own_upd h.has u (not_mem_own2 (own_own_ne h.has h.things (by decide)))
  refine ⟨?_, own_upd ho us (fun k hk => by simpa using own_cells_ne ho hb (by decide) k hk), own_upd t2 us (fun k hk => by simpa using own_cells_ne t2 hb (by decide) k hk), own_upd t1 us (fun k hk => by simpa using own_cells_ne t1 hb (by decide) k hk), h.len, fun n hn => ?_, h.dis, h.gB⟩
  · exact (blk_set hb 1 v1').trans rfl
  · obtain ⟨h1, m, h2, h3, h4⟩ := h.maps n hn
    have hm : HasMap w' (bs.getD n 0) (s.has n) := ⟨m, h2.upd u (not_mem_own (fun x hx => own_map_ne h.things h2 x hx)), h3, h4⟩
    exact ⟨h1, hm.upd us (by simp; have := h.mapNe hn; simpa using this)⟩
end

/-- What Has answers. -/
def hasR (s : Wd) (n t : Nat) : Nat := if chk s n t = 0 then s.has n t else 0
set_option maxHeartbeats 2000000 in
set_option maxRecDepth 100000 in
theorem has_any {w : World} {B g : Nat} {s : Wd} {v1 v2 v3 : Value} {bs : List Nat} (h : IsW w B g s v1 v2 v3 bs) (n t : Nat) :
    Calls Try.prog 47 #[.pointer (some ⟨g, 0, none⟩), .int .i64 (n : Int), .int .i64 (t : Int)] w fun e w' => e = .returned (.tuple #[.int .i64 (hasR s n t : Int), .int .i64 (chk s n t : Int)]) ∧ w' = w := by
  obtain ⟨c0, c1, c2, -⟩ := h.c0
  have ck := check_any h n t
  unfold hasR
  by_cases hk : chk s n t = 0
  · rw [if_pos hk]
    rw [hk] at ck ⊢
    have hn : n < s.nodes := by
      by_cases q : n < s.nodes
      · exact q
      · unfold chk at hk; rw [if_neg (fun z => q z.1)] at hk; cases hk
    obtain ⟨g2, k2, e2, d2, l3, l4⟩ := h.ptr hn
    subst e2
    obtain ⟨-, m, hm, -, hf⟩ := h.maps n hn
    have lk := (run_look (P := Try.prog) hm Try.underlying88 Try.underlying3 (Try.zeroValue3 _) (t : Int)).1
    rw [hf t] at lk
    obtain ⟨b, hb⟩ : ∃ b, b = bs.getD n 0 := ⟨_, rfl⟩
    rw [← hb] at lk d2
    have hn' : (n : Int) < (s.nodes : Int) := by omega
    clear h hm hf hn hb hk
    go_enter Try.func47, Try.ntmps47
    go_wp2_with fail
    refine ck.mono ?_
    rintro e w' ⟨rfl, rfl⟩
    go_wp2_with fail
    go_ret2
    exact ⟨rfl, rfl⟩
  · rw [if_neg hk]
    have hk' : ((chk s n t : Int) != 0) = true := by rw [bne_iff_ne]; omega
    clear h hk
    go_enter Try.func47, Try.ntmps47
    go_wp2_with fail
    refine ck.mono ?_
    rintro e w' ⟨rfl, rfl⟩
    go_wp2_with fail
    go_ret2
    exact ⟨rfl, rfl⟩

set_option maxHeartbeats 2000000 in
set_option maxRecDepth 100000 in
theorem freed_any {w : World} {B g : Nat} {s : Wd} {v1 v2 v3 : Value} {bs : List Nat} (h : IsW w B g s v1 v2 v3 bs) (t : Nat) (ht : t < s.things.length) :
    Calls Try.prog 52 #[.pointer (some ⟨g, 0, none⟩), .int .i64 (t : Int)] w fun e w' => e = .returned (.tuple #[.bool (s.things.getD t noThing).freed, .int .i64 0]) ∧ w' = w := by
  obtain ⟨c0, c1, -⟩ := h.c0
  obtain ⟨g1, k1, e1, -, -, d, -, l1, l2⟩ := h.thing ht
  subst e1
  have ht' : ¬ (s.things.length : Int) ≤ (t : Int) := by omega
  have ht2 : (t : Int) < (s.things.length : Int) := by omega
  obtain ⟨b, hb⟩ : ∃ b, b = (s.things.getD t noThing).freed := ⟨_, rfl⟩
  rw [← hb] at d ⊢
  clear h ht hb
  go_enter Try.func52, Try.ntmps52
  go_wp2_with fail
  go_ret2
  exact ⟨rfl, rfl⟩
end Go.Proofs.Ytmdhhembkmkfdaa.Wt
