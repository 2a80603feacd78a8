/- Gossip of a node in memory; find, Says, Doubt. -/
import Derived.Test.YtgkjkgooonicbaaGd
namespace Go.Proofs.Ytgkjkgooonicbaa.Gs
open Go Go.RowKit Go.Proofs.Ytgkjkgooonicbaa Go.Proofs.Ytgkjkgooonicbaa.K Go.Proofs.Ytgkjkgooonicbaa.M Go.Proofs.Ytgkjkgooonicbaa.O

/-- A node's references: a map whose missing entries count as 0. -/
def HasMap (w : World) (b : Nat) (f : Nat → Nat) : Prop := ∃ m, IsMap w b m ∧ (m.map (·.1)).Nodup ∧ ∀ t : Nat, (mlook m (t : Int)).getD (.int .i64 0) = .int .i64 (f t : Int)
theorem HasMap.upd {S : List Nat} {w w' : World} {b : Nat} {f : Nat → Nat} (h : HasMap w b f) (u : Upd S w w') (hs : b ∉ S) : HasMap w' b f :=
  let ⟨m, h1, h2, h3⟩ := h; ⟨m, h1.upd u hs, h2, h3⟩
theorem mput_keys (k : Int) (v : Value) : ∀ (m : Mp), (m.map (·.1)).Nodup → ((mput m k v).map (·.1)).Nodup ∧ ∀ x ∈ (mput m k v).map (·.1), x = k ∨ x ∈ m.map (·.1)
  | [], _ => by simp [mput]
  | p :: m, h => by
    simp only [List.map_cons, List.nodup_cons] at h
    obtain ⟨h1, h2⟩ := h
    obtain ⟨i1, i2⟩ := mput_keys k v m h2
    by_cases e : p.1 = k
    · simp only [mput, e, if_true, List.map_cons, List.nodup_cons]
      exact ⟨⟨by rw [← e]; exact h1, h2⟩, fun x hx => by simp at hx; rcases hx with hx | hx; exact .inl hx; exact .inr (by simp; exact .inr hx)⟩
    · simp only [mput, e, if_false, List.map_cons, List.nodup_cons]
      refine ⟨⟨fun hm => ?_, i1⟩, fun x hx => ?_⟩
      · rcases i2 _ hm with a | a
        · exact e a
        · exact h1 a
      · rcases List.mem_cons.1 hx with a | a
        · exact .inr (by simp [a])
        · rcases i2 x a with c | c
          · exact .inl c
          · exact .inr (by simp at c ⊢; exact .inr c)
theorem mlook_absent (k : Int) : ∀ (m : Mp), k ∉ m.map (·.1) → mlook m k = none
  | [], _ => rfl
  | p :: m, h => by
    simp only [List.map_cons, List.mem_cons, not_or] at h
    rw [mlook_cons, if_neg (fun e => h.1 e.symm)]
    exact mlook_absent k m h.2
theorem mlook_del (k : Int) : ∀ (m : Mp), (m.map (·.1)).Nodup → ∀ j, mlook (mdel m k) j = if k = j then none else mlook m j
  | [], _, j => by simp [mdel, mlook_nil]
  | p :: m, h, j => by
    simp only [List.map_cons, List.nodup_cons] at h
    by_cases e : p.1 = k
    · simp only [mdel, e, if_true]
      by_cases c : k = j
      · rw [if_pos c]
        exact mlook_absent j m (by rw [← c, ← e]; exact h.1)
      · rw [if_neg c, mlook_cons, if_neg (fun q => c (e ▸ q))]
    · simp only [mdel, e, if_false]
      rw [mlook_cons, mlook_cons, mlook_del k m h.2 j]
      by_cases c : k = j
      · subst c; simp [e]
      · simp [c]
theorem mdel_keys (k : Int) : ∀ (m : Mp), (m.map (·.1)).Nodup → ((mdel m k).map (·.1)).Nodup ∧ ∀ x ∈ (mdel m k).map (·.1), x ∈ m.map (·.1)
  | [], _ => by simp [mdel]
  | p :: m, h => by
    simp only [List.map_cons, List.nodup_cons] at h
    obtain ⟨i1, i2⟩ := mdel_keys k m h.2
    by_cases e : p.1 = k
    · simp only [mdel, e, if_true]
      exact ⟨h.2, fun x hx => by simp at hx ⊢; exact .inr hx⟩
    · simp only [mdel, e, if_false, List.map_cons, List.nodup_cons]
      refine ⟨⟨fun hm => h.1 (i2 _ hm), i1⟩, fun x hx => ?_⟩
      rcases List.mem_cons.1 hx with a | a
      · simp [a]
      · have := i2 x a; simp at this ⊢; exact .inr this
/-- f with another number at t. -/
def at1 (f : Nat → Nat) (t v : Nat) : Nat → Nat := fun x => if x = t then v else f x
theorem HasMap.of_put {w' : World} {b : Nat} {m : Mp} {f : Nat → Nat} (hn : (m.map (·.1)).Nodup) (hf : ∀ t : Nat, (mlook m (t : Int)).getD (.int .i64 0) = .int .i64 (f t : Int)) {t v : Nat} (h : IsMap w' b (mput m (t : Int) (.int .i64 (v : Int)))) : HasMap w' b (at1 f t v) := by
  refine ⟨_, h, (mput_keys _ _ m hn).1, fun x => ?_⟩
  rw [mlook_put]
  unfold at1
  by_cases c : x = t
  · subst c; simp
  · rw [if_neg (by omega), if_neg c]; exact hf x
theorem HasMap.of_del {w' : World} {b : Nat} {m : Mp} {f : Nat → Nat} (hn : (m.map (·.1)).Nodup) (hf : ∀ t : Nat, (mlook m (t : Int)).getD (.int .i64 0) = .int .i64 (f t : Int)) {t : Nat} (h : IsMap w' b (mdel m (t : Int))) : HasMap w' b (at1 f t 0) := by
  refine ⟨_, h, (mdel_keys _ m hn).1, fun x => ?_⟩
  rw [mlook_del _ m hn]
  unfold at1
  by_cases c : x = t
  · subst c; simp
  · rw [if_neg (by omega), if_neg c]; exact hf x

structure G where
  me : Nat
  ticks : Nat
  rows : List Row
  since : Nat → Nat
  next : Nat
structure IsG0 (w : World) (g : Nat) (s : G) (v : Value) (b : Nat) : Prop where
  blk : w.heap[g]? = some (.cells #[.int .i64 (s.me : Int), .int .i64 (s.ticks : Int), v, .map (some b), .int .i64 (s.next : Int)] 86 (0, 0))
  rows : w.ownsRow 0 65 3 v s.rows.length (rowCells s.rows)
  map : HasMap w b s.since
def foot (g : Nat) (v : Value) (b : Nat) : List Nat := g :: b :: v.ownBlock.toList
theorem mem_foot {g b s : Nat} {v : Value} : s ∈ foot g v b ↔ s = g ∨ s = b ∨ v.ownBlock = some s := by simp [foot]
/-- A node's gossip lies behind the pointer to block g; F: the blocks that its functions may change. -/
def IsG (w : World) (F : List Nat) (g : Nat) (s : G) : Prop := ∃ v b, IsG0 w g s v b ∧ F = foot g v b
theorem IsG0.cells {w : World} {g b : Nat} {s : G} {v : Value} (h : IsG0 w g s v b) : w.cell? ⟨g, 0, none⟩ = some (.int .i64 (s.me : Int)) ∧ w.cell? ⟨g, 1, none⟩ = some (.int .i64 (s.ticks : Int)) ∧ w.cell? ⟨g, 2, none⟩ = some v ∧ w.cell? ⟨g, 3, none⟩ = some (.map (some b)) ∧ w.cell? ⟨g, 4, none⟩ = some (.int .i64 (s.next : Int)) ∧ ∀ j, w.frozen? ⟨g, j, none⟩ = false :=
  ⟨(blk_cell h.blk 0).trans rfl, (blk_cell h.blk 1).trans rfl, (blk_cell h.blk 2).trans rfl, (blk_cell h.blk 3).trans rfl, (blk_cell h.blk 4).trans rfl, blk_frozen h.blk⟩
theorem IsG0.bg {w : World} {g b : Nat} {s : G} {v : Value} (h : IsG0 w g s v b) : b ≠ g := by
  obtain ⟨m, hm, -⟩ := h.map
  exact hm.ne_cells h.blk
theorem IsG0.vg {w : World} {g b : Nat} {s : G} {v : Value} (h : IsG0 w g s v b) : v.ownBlock ≠ some g := fun hx => own_cells_ne h.rows h.blk (by decide) g hx rfl
theorem IsG0.vb {w : World} {g b : Nat} {s : G} {v : Value} (h : IsG0 w g s v b) : v.ownBlock ≠ some b := fun hx => by
  obtain ⟨m, hm, -⟩ := h.map
  exact own_map_ne h.rows hm b hx rfl
theorem IsG0.upd {w w' : World} {S : List Nat} {g b : Nat} {s : G} {v : Value} (h : IsG0 w g s v b) (u : Upd S w w') (hd : ∀ x ∈ S, x ∉ foot g v b) : IsG0 w' g s v b :=
  ⟨u.blk h.blk (fun hs => hd _ hs (mem_foot.2 (.inl rfl))), own_upd h.rows u (fun _k hk hs => hd _ hs (mem_foot.2 (.inr (.inr hk)))), h.map.upd u (fun hs => hd _ hs (mem_foot.2 (.inr (.inl rfl))))⟩
theorem IsG0.new {w w' : World} {g b : Nat} {s : G} {v : Value} (h : IsG0 w g s v b) (u : Upd [] w w') : IsG0 w' g s v b := h.upd u (fun _ hs => by cases hs)
theorem IsG.upd {w w' : World} {F S : List Nat} {g : Nat} {s : G} (h : IsG w F g s) (u : Upd S w w') (hd : ∀ x ∈ S, x ∉ F) : IsG w' F g s := by
  obtain ⟨v, b, h0, rfl⟩ := h
  exact ⟨v, b, h0.upd u hd, rfl⟩
theorem IsG.new {w w' : World} {F : List Nat} {g : Nat} {s : G} (h : IsG w F g s) (u : Upd [] w w') : IsG w' F g s := h.upd u (fun _ hs => by cases hs)
theorem IsG.lt {w : World} {F : List Nat} {g : Nat} {s : G} (h : IsG w F g s) {x : Nat} (hx : x ∈ F) : x < w.heap.size := by
  obtain ⟨v, b, h0, rfl⟩ := h
  rcases mem_foot.1 hx with rfl | rfl | hx
  · exact blk_lt h0.blk
  · obtain ⟨m, hm, -⟩ := h0.map
    obtain ⟨es, c, hb, -⟩ := hm
    exact blk_lt hb
  · exact own_lt h0.rows x hx
theorem rowAt_own {w : World} {B n k : Nat} {a : Option Addr} {l : List Row} (h : w.ownsRow B 65 3 (.slice a n k) l.length (rowCells l)) : RowAt w a l := fun i hi => by
  obtain ⟨a', k', e, _, _, hc⟩ := own_view h
  simp only [Value.slice.injEq] at e
  obtain ⟨rfl, _, _⟩ := e
  obtain ⟨d0, d1, d2⟩ := rowCells_get l i hi
  obtain ⟨g, e0, _, c0, _⟩ := hc _ _ d0
  subst e0
  obtain ⟨g', e', _, c1, _⟩ := hc _ _ d1
  cases e'
  obtain ⟨g', e', _, c2, _⟩ := hc _ _ d2
  cases e'
  exact ⟨g, 0, rfl, by rw [Nat.zero_add]; exact c0, by rw [Nat.zero_add]; exact c1, by rw [Nat.zero_add]; exact c2⟩

set_option maxHeartbeats 1000000 in
set_option maxRecDepth 100000 in
theorem find_any {w : World} {g b : Nat} {s : G} {v : Value} (h : IsG0 w g s v b) (hs : Sorted s.rows) (h8 : s.rows.length ≤ 100) (t : Nat) :
    Calls Try.prog 45 #[.pointer (some ⟨g, 0, none⟩), .int .i64 (t : Int)] w fun e w' => e = .returned (.tuple #[.int .i64 (posOf s.rows t : Int), .bool (hasRow s.rows t)]) ∧ Upd [] w w' := by
  have c2 := h.cells.2.2.1
  obtain ⟨a, k, e1, l1, l2, -⟩ := own_view h.rows
  subst e1
  have SR := hid (search_any a s.rows.length k s.rows t w rfl hs (rowAt_own h.rows) (by omega) l1)
  clear h hs
  go_enter Try.func45, Try.ntmps45
  go_wp2_with fail
  refine SR.out.mono ?_
  rintro e w' ⟨rfl, hu⟩
  have HU := hid hu
  clear hu
  go_wp2_with fail
  go_ret2
  exact ⟨rfl, HU.out⟩
/-- What is said of a node: its row, if there is one. -/
theorem IsG0.row {w : World} {g b : Nat} {s : G} {v : Value} (h : IsG0 w g s v b) {i : Nat} (hi : i < s.rows.length) :
    ∃ r k, v = .slice (some ⟨r, 0, none⟩) s.rows.length k ∧ w.cell? ⟨r, i * 3, none⟩ = some (.int .i64 ((s.rows.getD i noRow).node : Int)) ∧ w.cell? ⟨r, i * 3 + 1, none⟩ = some (.int .i64 ((s.rows.getD i noRow).turn : Int)) ∧ w.cell? ⟨r, i * 3 + 2, none⟩ = some (.int .i64 ((s.rows.getD i noRow).says : Int)) ∧ (∀ j, w.frozen? ⟨r, j, none⟩ = false) ∧ s.rows.length ≤ k ∧ k ≤ 9223372036854775807 := by
  obtain ⟨a, k, e, l1, l2, hc⟩ := own_view h.rows
  obtain ⟨d0, d1, d2⟩ := rowCells_get s.rows i hi
  obtain ⟨r, e0, _, c0, fr⟩ := hc _ _ d0
  subst e0
  obtain ⟨g', e', _, c1, _⟩ := hc _ _ d1
  cases e'
  obtain ⟨g', e', _, c2, _⟩ := hc _ _ d2
  cases e'
  exact ⟨r, k, e, c0, c1, c2, fr, l1, l2⟩
set_option maxHeartbeats 1000000 in
set_option maxRecDepth 100000 in
theorem says_yes {w : World} {F : List Nat} {g : Nat} {s : G} (h : IsG w F g s) (hs : Sorted s.rows) (h8 : s.rows.length ≤ 100) (t : Nat) (ht : hasRow s.rows t = true) :
    Calls Try.prog 33 #[.pointer (some ⟨g, 0, none⟩), .int .i64 (t : Int)] w fun e w' => e = .returned (.tuple #[.int .i64 ((s.rows.getD (posOf s.rows t) noRow).says : Int), .int .i64 0]) ∧ Upd [] w w' := by
  obtain ⟨v, b, h0, -⟩ := h
  have FD := find_any h0 hs h8 t
  rw [ht] at FD
  have hp : posOf s.rows t < s.rows.length := by
    unfold hasRow at ht
    exact (of_decide_eq_true ht).1
  obtain ⟨p, hpp⟩ : ∃ p, p = posOf s.rows t := ⟨_, rfl⟩
  rw [← hpp] at FD hp ⊢
  obtain ⟨r, k, e, c0, c1, c2, -, l1, l2⟩ := h0.row hp
  subst e
  obtain ⟨sa, hsa⟩ : ∃ x, x = (s.rows.getD p noRow).says := ⟨_, rfl⟩
  obtain ⟨n, hn⟩ : ∃ n, n = s.rows.length := ⟨_, rfl⟩
  rw [← hsa] at c2 ⊢
  have C2 := hid c2
  have CG := hid h0.cells.2.2.1
  have hp' : (p : Int) < (s.rows.length : Int) := by omega
  have FF := hid FD
  clear h0 hs ht hpp hsa FD c0 c1 c2 hn
  go_enter Try.func33, Try.ntmps33
  go_wp2_with fail
  refine FF.out.mono ?_
  rintro e w' ⟨rfl, hu⟩
  have HU := hid hu
  have c2 := hu.cell C2.out (by simp)
  have cg := hu.cell CG.out (by simp)
  clear hu
  go_wp2_with fail
  go_ret2
  exact ⟨rfl, HU.out⟩
end Go.Proofs.Ytgkjkgooonicbaa.Gs
