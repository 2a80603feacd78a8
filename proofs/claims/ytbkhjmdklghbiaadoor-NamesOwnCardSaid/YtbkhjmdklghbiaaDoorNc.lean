/- Names of a node in memory; find, Find. -/
import Derived.Test.YtbkhjmdklghbiaaDoorNb
namespace Go.Proofs.YtbkhjmdklghbiaaDoor.Nm
open Go Go.RowKit Go.Proofs.YtbkhjmdklghbiaaDoor Go.Proofs.YtbkhjmdklghbiaaDoor.K Go.Proofs.YtbkhjmdklghbiaaDoor.M Go.Proofs.YtbkhjmdklghbiaaDoor.O

structure G where
  me : Nat
  count : Nat
  rows : List Row
structure IsG0 (w : World) (g : Nat) (s : G) (v : Value) : Prop where
  blk : w.heap[g]? = some (.cells #[.int .i64 (s.me : Int), .int .i64 (s.count : Int), v] 56 (0, 0))
  rows : w.ownsRow 0 40 4 v s.rows.length (rowCells s.rows)
def foot (g : Nat) (v : Value) : List Nat := g :: v.ownBlock.toList
theorem mem_foot {g s : Nat} {v : Value} : s ∈ foot g v ↔ s = g ∨ v.ownBlock = some s := by simp [foot]
/-- A node's names lie behind the pointer to block g; F: the blocks that its functions may change. -/
def IsG (w : World) (F : List Nat) (g : Nat) (s : G) : Prop := ∃ v, IsG0 w g s v ∧ F = foot g v
theorem IsG0.cells {w : World} {g : Nat} {s : G} {v : Value} (h : IsG0 w g s v) : w.cell? ⟨g, 0, none⟩ = some (.int .i64 (s.me : Int)) ∧ w.cell? ⟨g, 1, none⟩ = some (.int .i64 (s.count : Int)) ∧ w.cell? ⟨g, 2, none⟩ = some v ∧ ∀ j, w.frozen? ⟨g, j, none⟩ = false :=
  ⟨(blk_cell h.blk 0).trans rfl, (blk_cell h.blk 1).trans rfl, (blk_cell h.blk 2).trans rfl, blk_frozen h.blk⟩
theorem IsG0.vg {w : World} {g : Nat} {s : G} {v : Value} (h : IsG0 w g s v) : v.ownBlock ≠ some g := fun hx => own_cells_ne h.rows h.blk (by decide) g hx rfl
theorem IsG0.upd {w w' : World} {S : List Nat} {g : Nat} {s : G} {v : Value} (h : IsG0 w g s v) (u : Upd S w w') (hd : ∀ x ∈ S, x ∉ foot g v) : IsG0 w' g s v :=
  ⟨u.blk h.blk (fun hs => hd _ hs (mem_foot.2 (.inl rfl))), own_upd h.rows u (fun _k hk hs => hd _ hs (mem_foot.2 (.inr hk)))⟩
theorem IsG0.new {w w' : World} {g : Nat} {s : G} {v : Value} (h : IsG0 w g s v) (u : Upd [] w w') : IsG0 w' g s v := h.upd u (fun _ hs => by cases hs)
theorem IsG.upd {w w' : World} {F S : List Nat} {g : Nat} {s : G} (h : IsG w F g s) (u : Upd S w w') (hd : ∀ x ∈ S, x ∉ F) : IsG w' F g s := by
  obtain ⟨v, h0, rfl⟩ := h
  exact ⟨v, h0.upd u hd, rfl⟩
theorem IsG.new {w w' : World} {F : List Nat} {g : Nat} {s : G} (h : IsG w F g s) (u : Upd [] w w') : IsG w' F g s := h.upd u (fun _ hs => by cases hs)
theorem IsG.lt {w : World} {F : List Nat} {g : Nat} {s : G} (h : IsG w F g s) {x : Nat} (hx : x ∈ F) : x < w.heap.size := by
  obtain ⟨v, h0, rfl⟩ := h
  rcases mem_foot.1 hx with rfl | hx
  · exact blk_lt h0.blk
  · exact own_lt h0.rows x hx
/-- Rows as a node has them: in order, of names that are told of, few. -/
structure WF (l : List Row) : Prop where
  up : Sorted l
  keys : Keys l
theorem sorted_keys : ∀ (n : Nat) (l : List Row), l.length = n → (∀ i j, i < j → j < l.length → (l.getD i noRow).name < (l.getD j noRow).name) → ∀ i, i < n → i ≤ (l.getD i noRow).name := fun n l hl hs i hi => by
  induction i with
  | zero => omega
  | succ i ih =>
    have h1 := ih (by omega)
    have h2 := hs i (i + 1) (by omega) (by omega)
    omega
theorem WF.few {l : List Row} (h : WF l) : l.length ≤ 7 := by
  by_cases c : l.length ≤ 7
  · exact c
  · have h1 := sorted_keys _ l rfl h.up 7 (by omega)
    have h2 := h.keys 7 (by omega)
    omega

set_option maxHeartbeats 2000000 in
set_option maxRecDepth 100000 in
theorem find_any {w : World} {F : List Nat} {g : Nat} {s : G} (h : IsG w F g s) (hw : WF s.rows) (t : Nat) (ht : t < 7) :
    Calls Tryd.prog 31 #[.pointer (some ⟨g, 0, none⟩), .string (nmS t)] w fun e w' => e = .returned (.tuple #[.int .i64 (posOf s.rows t : Int), .bool (hasRow s.rows t)]) ∧ Upd [] w w' := by
  obtain ⟨v, hg, -⟩ := h
  obtain ⟨a, k, rfl, hk, -⟩ := own_view hg.rows
  have cg := hg.cells.2.2.1
  have SR := fun w' (u : Upd [] w w') => hid (search_any 38 cmps38 a s.rows.length k s.rows t w' rfl hw.up hw.keys ht ((rowAt_own hg.rows).new u) (by have := hw.few; omega) hk)
  obtain ⟨st, hst⟩ : ∃ st, st = nmS t := ⟨_, rfl⟩
  rw [← hst] at SR ⊢
  obtain ⟨n, hn⟩ : ∃ n, n = s.rows.length := ⟨_, rfl⟩
  rw [← hn] at SR cg
  clear hg hw ht hst hk hn
  go_enter Tryd.func31, Tryd.ntmps31
  go_wp2_with fail
  refine (SR _ (Upd.refl [] _)).out.mono ?_
  rintro e w1 ⟨rfl, hu⟩
  have U := hid hu
  clear hu SR
  go_wp2_with fail
  go_ret2
  exact ⟨rfl, U.out⟩

/-- What a name means. -/
def refOf (l : List Row) (t : Nat) : Nat := if hasRow l t = true then (l.getD (posOf l t) noRow).ref else 0
theorem has_lt {l : List Row} {t : Nat} (h : hasRow l t = true) : posOf l t < l.length ∧ (l.getD (posOf l t) noRow).name = t := by
  unfold hasRow at h; simpa using h
set_option maxHeartbeats 4000000 in
set_option maxRecDepth 100000 in
theorem Find_any {w : World} {F : List Nat} {g : Nat} {s : G} (h : IsG w F g s) (hw : WF s.rows) (t : Nat) (ht : t < 7) :
    Calls Tryd.prog 15 #[.pointer (some ⟨g, 0, none⟩), .string (nmS t)] w fun e w' => e = .returned (.tuple #[.int .i64 ((refOf s.rows t : Nat) : Int), .int .i64 (if refOf s.rows t = 0 then 4 else 0)]) ∧ Upd [] w w' := by
  have WD := hid (word_nm t ht w)
  have FD := fun w' (u : Upd [] w w') => hid (find_any (h.new u) hw t ht)
  have H := hid h
  obtain ⟨st, hst⟩ : ∃ st, st = nmS t := ⟨_, rfl⟩
  rw [← hst] at WD FD ⊢
  have HL := hid (has_lt (l := s.rows) (t := t))
  obtain ⟨ps, hps⟩ : ∃ ps, ps = posOf s.rows t := ⟨_, rfl⟩
  obtain ⟨q, hq⟩ : ∃ q, q = hasRow s.rows t := ⟨_, rfl⟩
  obtain ⟨rv, hrv⟩ : ∃ rv, rv = refOf s.rows t := ⟨_, rfl⟩
  obtain ⟨ev, hev⟩ : ∃ ev : Int, ev = if rv = 0 then 4 else 0 := ⟨_, rfl⟩
  rw [← hrv, ← hev]
  unfold refOf at hrv
  rw [← hps, ← hq] at FD HL hrv
  have HRV := hid hrv
  have HEV := hid hev
  clear h hst hps hq ht hw hrv hev
  go_enter Tryd.func15, Tryd.ntmps15
  go_wp2_with fail
  refine WD.out.mono ?_
  rintro e w1 ⟨rfl, hu⟩
  have U1 := hid hu
  have FD1 := FD w1 hu
  clear hu FD WD
  go_wp2_with fail
  refine FD1.out.mono ?_
  rintro e w2 ⟨rfl, hu⟩
  have U2 := hid (U1.out.trans hu (fun t ht => by cases ht))
  clear hu FD1
  cases q with
  | false =>
    have e1 : rv = 0 := by rw [HRV.out, if_neg (by decide)]
    have e2 : ev = 4 := by rw [HEV.out, if_pos e1]
    subst e1 e2
    go_wp2_with fail
    go_ret2
    exact ⟨rfl, U2.out⟩
  | true =>
    obtain ⟨h1, -⟩ := HL.out rfl
    obtain ⟨v, hg, -⟩ := H.out.new U2.out
    obtain ⟨a, k, rfl, -⟩ := own_view hg.rows
    have cg := hg.cells.2.2.1
    obtain ⟨r, rfl, -, c1, -⟩ := rowAt_own hg.rows ps h1
    have h1' : (ps : Int) < (s.rows.length : Int) := by omega
    obtain ⟨n, hn⟩ : ∃ n, n = s.rows.length := ⟨_, rfl⟩
    obtain ⟨x, hx⟩ : ∃ x, x = (s.rows.getD ps noRow).ref := ⟨_, rfl⟩
    rw [← hn] at cg h1'
    rw [← hx] at c1
    have e1 : rv = x := by rw [HRV.out, if_pos rfl, hx]
    subst e1
    clear hg hn hx h1
    by_cases hx0 : rv = 0
    · have e2 : ev = 4 := by rw [HEV.out, if_pos hx0]
      subst hx0 e2
      go_wp2_with fail
      go_ret2
      exact ⟨rfl, U2.out⟩
    · have e2 : ev = 0 := by rw [HEV.out, if_neg hx0]
      subst e2
      have hxb : ((rv : Int) == 0) = false := by rw [beq_eq_false_iff_ne]; omega
      go_wp2_with fail
      go_ret2
      exact ⟨rfl, U2.out⟩
end Go.Proofs.YtbkhjmdklghbiaaDoor.Nm
