/- Names: what is told, in blocks that the nodes leave alone; a name behind all others. -/
import Derived.Test.YtbkhjmdklghbiaaDoorNq
namespace Go.Proofs.YtbkhjmdklghbiaaDoor.Nm
open Go Go.RowKit Go.Proofs.YtbkhjmdklghbiaaDoor Go.Proofs.YtbkhjmdklghbiaaDoor.K Go.Proofs.YtbkhjmdklghbiaaDoor.M Go.Proofs.YtbkhjmdklghbiaaDoor.O

def blkOf (a : Option Addr) : List Nat := a.toList.map (·.block)
theorem mem_blkOf {a : Option Addr} {g : Nat} (h : a = some ⟨g, 0, none⟩) : g ∈ blkOf a := by subst h; simp [blkOf]
theorem own_blk {w : World} {B n k e sz m : Nat} {a : Option Addr} {xs : List Value} (h : w.ownsRow B e sz (.slice a n k) m xs) : ∀ z ∈ blkOf a, B ≤ z ∧ z < w.heap.size := fun z hz => by
  have hb : (Value.slice a n k).ownBlock = some z := by
    cases a with
    | none => simp [blkOf] at hz
    | some p => simp [blkOf] at hz; simp [Value.ownBlock, hz]
  exact ⟨own_ge h z hb, own_lt h z hb⟩
theorem Net.more {B n : Nat} {Z : List Nat} {w w' : World} {g : Nat → Nat} {s : Nat → G} (h : Net B Z n w g s) (u : Upd [] w w') (Y : List Nat) (hY : ∀ z ∈ Y, w.heap.size ≤ z ∧ z < w'.heap.size) : Net B (Y ++ Z) n w' g s :=
  h.turn u (fun x hx => by cases hx) (fun z hz => by
    rcases List.mem_append.1 hz with q | q
    · exact ⟨.inr (hY z q).1, (hY z q).2⟩
    · have := h.zlt z q
      have := u.size
      exact ⟨.inl q, by omega⟩)
theorem NmAt.far {B : Nat} {Z : List Nat} {w w' : World} {a : Option Addr} {l : List (Nat × Nat)} (h : NmAt w a l) (f : Far B Z w w') (hz : ∀ z ∈ blkOf a, z ∈ Z) : NmAt w' a l := by
  obtain ⟨S, u, s1, -⟩ := f
  exact h.upd u (fun g e => s1 g (hz g (mem_blkOf e)))
theorem RowAt.far {B : Nat} {Z : List Nat} {w w' : World} {a : Option Addr} {l : List Row} (h : RowAt w a l) (f : Far B Z w w') (hz : ∀ z ∈ blkOf a, z ∈ Z) : RowAt w' a l := by
  obtain ⟨S, u, s1, -⟩ := f
  exact h.upd u (fun g e => s1 g (hz g (mem_blkOf e)))
theorem Far.cell {B : Nat} {Z : List Nat} {w w' : World} {a : Addr} {v : Value} (f : Far B Z w w') (h : w.cell? a = some v) (hz : a.block ∈ Z) : w'.cell? a = some v := by
  obtain ⟨S, u, s1, -⟩ := f
  exact u.cell h (s1 _ hz)
theorem Far.upd_le {B : Nat} {Z : List Nat} {w0 a b : World} (h : Far B Z a b) (hB : w0.heap.size ≤ B) (u : Upd [] w0 a) : Upd [] w0 b := by
  obtain ⟨S, v, _, s2⟩ := h
  exact u.trans v (fun x hx => .inr (Nat.le_trans hB (s2 x hx)))
section
variable {B n : Nat} {Z : List Nat} {w : World} {g : Nat → Nat} {s : Nat → G} {b : Nat}
theorem net_all' (h : Net B Z n w g s) {i : Nat} (hi : i < n) (ho : Ok (s i) b) :
    Calls Tryd.prog 19 #[.pointer (some ⟨g i, 0, none⟩)] w fun e w' => ∃ a k, e = .returned (.slice a (allOf (s i).rows).length k) ∧ (allOf (s i).rows).length ≤ k ∧ k ≤ 9223372036854775807 ∧ NmAt w' a (allOf (s i).rows) ∧ (∀ z ∈ blkOf a, w.heap.size ≤ z ∧ z < w'.heap.size) ∧ Upd [] w w' := by
  refine (net_all h hi ho).mono ?_
  rintro e w' ⟨v, rfl, h1, h2⟩
  obtain ⟨a, k, rfl, k1, k2, -⟩ := own_view h1
  exact ⟨a, k, rfl, k1, k2, nmAt_own h1, own_blk h1, h2⟩
theorem net_state' (h : Net B Z n w g s) {i : Nat} (hi : i < n) (ho : Ok (s i) b) :
    Calls Tryd.prog 12 #[.pointer (some ⟨g i, 0, none⟩)] w fun e w' => ∃ a k, e = .returned (.slice a (s i).rows.length k) ∧ (s i).rows.length ≤ k ∧ k ≤ 9223372036854775807 ∧ RowAt w' a (s i).rows ∧ (∀ z ∈ blkOf a, w.heap.size ≤ z ∧ z < w'.heap.size) ∧ Upd [] w w' := by
  refine (net_state h hi ho).mono ?_
  rintro e w' ⟨v, rfl, h1, h2⟩
  obtain ⟨a, k, rfl, k1, k2, -⟩ := own_view h1
  exact ⟨a, k, rfl, k1, k2, rowAt_own h1, own_blk h1, h2⟩
theorem net_merge' (h : Net B Z n w g s) {i : Nat} (hi : i < n) (hB : B ≤ w.heap.size) (ho : Ok (s i) b) (hb : b ≤ 1000) (a : Option Addr) (m c : Nat) (k : List Row) (hm : m = k.length) (hk : WF k) (hkb : RB k b) (hr : RowAt w a k) :
    Calls Tryd.prog 11 #[.pointer (some ⟨g i, 0, none⟩), .slice a m c] w fun e w' => e = .returned (.int .i64 0) ∧ Net B Z n w' g (upf s i (gmerge (s i) k)) ∧ Far B Z w w' := by
  obtain ⟨F, hg, -, st⟩ := h.step hi
  refine (merge_any hg ho (by omega) a m c k hm hk hkb hr).mono ?_
  rintro e w' ⟨rfl, F', m1, m2, m3⟩
  exact ⟨rfl, st w' F' _ m1 m2 m3 hB⟩
end
theorem posOf_z {l : List Row} (h : ∀ x ∈ l, x.name < 6) (m : List Row) (hm : ∀ x ∈ m, x.name = 6) : posOf (l ++ m) 6 = l.length := by
  unfold posOf
  rw [List.takeWhile_append_of_pos (fun x hx => by simpa using h x hx)]
  cases m with
  | nil => simp
  | cons x m =>
    have := hm x (by simp)
    rw [List.takeWhile_cons, if_neg (by rw [this]; decide)]
    simp
theorem lt_z {l : List Row} (hw : WF l) (h : ∀ x ∈ l, x.name ≠ 6) : ∀ x ∈ l, x.name < 6 := fun x hx => by
  have h1 := hw.keys' hx
  have h2 := h x hx
  omega
theorem rput_z {l : List Row} (h : ∀ x ∈ l, x.name < 6) (r : Row) (hr : r.name = 6) : rput l r = l ++ [r] := by
  have p := posOf_z h [] (fun x hx => by cases hx)
  rw [List.append_nil] at p
  unfold rput
  rw [if_neg, hr, p]
  · unfold insAt; simp
  · rw [hr]; unfold hasRow; rw [p]; simp
theorem rput_zz {l : List Row} (h : ∀ x ∈ l, x.name < 6) (r r' : Row) (hr : r.name = 6) (hr' : r'.name = 6) : rput (l ++ [r]) r' = l ++ [r'] := by
  have p := posOf_z h [r] (fun x hx => by simp at hx; subst hx; exact hr)
  unfold rput
  rw [if_pos, hr', p]
  · simp
  · rw [hr']; unfold hasRow; rw [p]; simp [hr]
theorem refOf_z {l : List Row} (h : ∀ x ∈ l, x.name < 6) (r : Row) (hr : r.name = 6) : refOf (l ++ [r]) 6 = r.ref := by
  have p := posOf_z h [r] (fun x hx => by simp at hx; subst hx; exact hr)
  unfold refOf
  rw [if_pos, p]
  · simp
  · unfold hasRow; rw [p]; simp [hr]
theorem allOf_app (l m : List Row) : allOf (l ++ m) = allOf l ++ allOf m := by unfold allOf; rw [List.filter_append, List.map_append]
end Go.Proofs.YtbkhjmdklghbiaaDoor.Nm
