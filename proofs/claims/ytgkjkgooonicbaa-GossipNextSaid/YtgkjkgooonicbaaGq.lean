/- Gossip: put; Merge. -/
import Derived.Test.YtgkjkgooonicbaaGp
import Derived.BigQuiet
namespace Go.Proofs.Ytgkjkgooonicbaa.Gs
open Go Go.RowKit Go.Proofs.Ytgkjkgooonicbaa Go.Proofs.Ytgkjkgooonicbaa.K Go.Proofs.Ytgkjkgooonicbaa.M Go.Proofs.Ytgkjkgooonicbaa.O

/-- A row as it may be told. -/
def RowOk (r : Row) : Prop := 1 ≤ r.node ∧ r.node ≤ 8 ∧ r.turn ≤ 1099511627776 ∧ 1 ≤ r.says ∧ r.says ≤ 3
def Told (l : List Row) : Prop := Sorted l ∧ l.length ≤ 8 ∧ ∀ i, i < l.length → RowOk (l.getD i noRow)
/-- A node's rows as they may be. -/
def WF (l : List Row) : Prop := Sorted l ∧ 0 < l.length ∧ ∀ i, i < l.length → RowOk (l.getD i noRow)
theorem WF.node_ge {l : List Row} (h : WF l) : ∀ i, i < l.length → i + 1 ≤ (l.getD i noRow).node
  | 0, hi => (h.2.2 0 hi).1
  | i + 1, hi => by
    have := WF.node_ge h i (by omega)
    have := h.1 i (i + 1) (by omega) hi
    omega
theorem WF.len {l : List Row} (h : WF l) : l.length ≤ 8 := by
  have h0 := h.2.1
  have := h.node_ge (l.length - 1) (by omega)
  have := (h.2.2 (l.length - 1) (by omega)).2.1
  omega
theorem WF.told {l : List Row} (h : WF l) : Told l := ⟨h.1, h.len, h.2.2⟩
theorem getD_set (l : List Row) (p : Nat) (r : Row) (i : Nat) (hp : p < l.length) : (l.set p r).getD i noRow = if i = p then r else l.getD i noRow := by
  simp only [List.getD_eq_getElem?_getD, List.getElem?_set]
  by_cases h : p = i
  · subst h; simp [hp]
  · rw [if_neg h, if_neg (fun q => h q.symm)]
theorem getD_ins (l : List Row) (p : Nat) (r : Row) (i : Nat) (hp : p ≤ l.length) : (insAt l p r).getD i noRow = if i < p then l.getD i noRow else if i = p then r else l.getD (i - 1) noRow := by
  unfold insAt
  simp only [List.getD_eq_getElem?_getD]
  have hl : (l.take p).length = p := by simp; omega
  by_cases h1 : i < p
  · rw [if_pos h1, List.getElem?_append_left (by omega), List.getElem?_take_of_lt h1]
  · rw [if_neg h1, List.getElem?_append_right (by omega), hl]
    by_cases h2 : i = p
    · subst h2; simp
    · rw [if_neg h2, show i - p = (i - p - 1) + 1 by omega, List.getElem?_cons_succ, List.getElem?_drop, show p + (i - p - 1) = i - 1 by omega]
theorem takeWhile_all {α : Type} (f : α → Bool) : ∀ (l : List α) (i : Nat) (d : α), i < (l.takeWhile f).length → f (l.getD i d) = true
  | [], i, d, h => by simp at h
  | x :: l, 0, d, h => by
    rw [List.takeWhile_cons] at h
    split at h
    · simpa
    · simp at h
  | x :: l, i + 1, d, h => by
    rw [List.takeWhile_cons] at h
    split at h
    · have := takeWhile_all f l i d (by simpa using h)
      simpa using this
    · simp at h
theorem takeWhile_end {α : Type} (f : α → Bool) : ∀ (l : List α) (d : α), (l.takeWhile f).length < l.length → f (l.getD (l.takeWhile f).length d) = false
  | [], d, h => by simp at h
  | x :: l, d, h => by
    rw [List.takeWhile_cons] at h ⊢
    split
    · rename_i hx
      rw [if_pos hx] at h
      have := takeWhile_end f l d (by simpa using h)
      simpa using this
    · rename_i hx
      simpa using hx
theorem posOf_lt (l : List Row) (t i : Nat) (h : i < posOf l t) : (l.getD i noRow).node < t := by
  have := takeWhile_all (fun r : Row => decide (r.node < t)) l i noRow h
  simpa using this
theorem posOf_end (l : List Row) (t : Nat) (h : posOf l t < l.length) : t ≤ (l.getD (posOf l t) noRow).node := by
  have := takeWhile_end (fun r : Row => decide (r.node < t)) l noRow h
  simp at this
  exact this
theorem posOf_le (l : List Row) (t : Nat) : posOf l t ≤ l.length := (List.takeWhile_sublist _).length_le
theorem hasRow_iff {l : List Row} {t : Nat} : hasRow l t = true ↔ posOf l t < l.length ∧ (l.getD (posOf l t) noRow).node = t := by simp [hasRow]
theorem WF.set {l : List Row} (h : WF l) {p : Nat} (hp : p < l.length) {r : Row} (hr : RowOk r) (hn : r.node = (l.getD p noRow).node) : WF (l.set p r) := by
  have hnode : ∀ i, ((l.set p r).getD i noRow).node = (l.getD i noRow).node := fun i => by
    rw [getD_set l p r i hp]
    by_cases e : i = p
    · rw [if_pos e, e, hn]
    · rw [if_neg e]
  refine ⟨fun i j hij hj => ?_, by simpa using h.2.1, fun i hi => ?_⟩
  · rw [hnode, hnode]
    exact h.1 i j hij (by simpa using hj)
  · rw [getD_set l p r i hp]
    by_cases e : i = p
    · rw [if_pos e]; exact hr
    · rw [if_neg e]; exact h.2.2 i (by simpa using hi)
theorem WF.ins {l : List Row} (h : WF l) {r : Row} (hr : RowOk r) (hn : hasRow l r.node = false) : WF (insAt l (posOf l r.node) r) := by
  have hp := posOf_le l r.node
  have hl := insAt_len l (posOf l r.node) r hp
  have hgt : posOf l r.node < l.length → r.node < (l.getD (posOf l r.node) noRow).node := fun hq => by
    have := posOf_end l r.node hq
    have : ¬ ((l.getD (posOf l r.node) noRow).node = r.node) := fun e => by
      rw [hasRow_iff.2 ⟨hq, e⟩] at hn; cases hn
    omega
  refine ⟨fun i j hij hj => ?_, by omega, fun i hi => ?_⟩
  · rw [getD_ins l _ r i hp, getD_ins l _ r j hp]
    rw [hl] at hj
    by_cases a : i < posOf l r.node
    · rw [if_pos a]
      by_cases b : j < posOf l r.node
      · rw [if_pos b]; exact h.1 i j hij (by omega)
      · rw [if_neg b]
        by_cases c : j = posOf l r.node
        · rw [if_pos c]; exact posOf_lt l r.node i a
        · rw [if_neg c]; exact h.1 i (j - 1) (by omega) (by omega)
    · rw [if_neg a, if_neg (show ¬ j < posOf l r.node by omega), if_neg (show ¬ j = posOf l r.node by omega)]
      by_cases c : i = posOf l r.node
      · rw [if_pos c]
        have := hgt (by omega)
        by_cases d : j - 1 = posOf l r.node
        · rw [d]; exact this
        · have := h.1 (posOf l r.node) (j - 1) (by omega) (by omega)
          omega
      · rw [if_neg c]; exact h.1 (i - 1) (j - 1) (by omega) (by omega)
  · rw [getD_ins l _ r i hp]
    rw [hl] at hi
    by_cases a : i < posOf l r.node
    · rw [if_pos a]; exact h.2.2 i (by omega)
    · rw [if_neg a]
      by_cases c : i = posOf l r.node
      · rw [if_pos c]; exact hr
      · rw [if_neg c]; exact h.2.2 (i - 1) (by omega)
theorem WF.gput {s : G} (h : WF s.rows) (hm : 1 ≤ s.me ∧ s.me ≤ 8) {r : Row} (hr : RowOk r) : WF (gput s r).rows ∧ (gput s r).me = s.me := by
  unfold Gs.gput
  by_cases h1 : hasRow s.rows r.node = true
  · obtain ⟨hp, hn⟩ := hasRow_iff.1 h1
    rw [if_pos h1]
    split
    · split
      · rename_i e
        refine ⟨h.set hp ?_ ?_, rfl⟩
        · split
          · exact hr
          · have := hr.2.2.1
            exact ⟨hm.1, hm.2, by simp only; omega, by simp, by simp⟩
        · split
          · exact hn.symm
          · simp only; omega
      · exact ⟨h.set hp hr hn.symm, rfl⟩
    · exact ⟨h, rfl⟩
  · rw [if_neg h1]
    exact ⟨h.ins hr (by simpa using h1), rfl⟩
def gmerge (s : G) (l : List Row) : G := l.foldl gput s

theorem put_any {w : World} {F : List Nat} {g : Nat} {s : G} (h : IsG w F g s) (hs : WF s.rows) (r : Row) (hr : RowOk r) :
    Calls Try.prog 47 #[.pointer (some ⟨g, 0, none⟩), rowVal r] w fun e w' => e = .returned (.tuple #[]) ∧ ∃ F', IsG w' F' g (gput s r) ∧ Fresh w F F' ∧ Upd F w w' := by
  have hl := hs.len
  by_cases c : hasRow s.rows r.node = true
  · refine (put_old h hs.1 (by omega) r c hr.2.2.1).mono ?_
    rintro e w' ⟨e1, e2, e3⟩
    exact ⟨e1, F, e2, fun x hx => .inl hx, e3⟩
  · have c' : hasRow s.rows r.node = false := by simpa using c
    refine (put_new h hs.1 (by omega) hs.2.1 r c').mono ?_
    rintro e w' ⟨e1, F', e2, e3, e4⟩
    refine ⟨e1, F', ?_, e3, e4⟩
    unfold gput
    rw [if_neg c]
    exact e2
theorem RowAt.upd {w w' : World} {S : List Nat} {a : Option Addr} {l : List Row} (h : RowAt w a l) (u : Upd S w w') (hs : ∀ g o, a = some ⟨g, o, none⟩ → g ∉ S) : RowAt w' a l := fun i hi => by
  obtain ⟨g, o, e, c0, c1, c2⟩ := h i hi
  have := hs g o e
  exact ⟨g, o, e, u.cell c0 this, u.cell c1 this, u.cell c2 this⟩
theorem gmerge_snoc (s : G) (l : List Row) (i : Nat) (hi : i < l.length) : gmerge s (l.take (i + 1)) = gput (gmerge s (l.take i)) (l.getD i noRow) := by
  unfold gmerge
  rw [List.take_add_one, List.foldl_append, List.getD_eq_getElem?_getD]
  rw [List.getElem?_eq_getElem hi]
  rfl
theorem WF.gmerge {s : G} (h : WF s.rows) (hm : 1 ≤ s.me ∧ s.me ≤ 8) : ∀ (l : List Row), (∀ i, i < l.length → RowOk (l.getD i noRow)) → WF (gmerge s l).rows ∧ (gmerge s l).me = s.me
  | [], _ => ⟨h, rfl⟩
  | x :: l, hl => by
    have h1 := h.gput hm (hl 0 (by simp))
    have h2 := WF.gmerge h1.1 (by rw [h1.2]; exact hm) l (fun i hi => by have := hl (i + 1) (by simpa using hi); simpa using this)
    exact ⟨h2.1, h2.2.trans h1.2⟩

set_option maxHeartbeats 8000000 in
set_option maxRecDepth 100000 in
theorem merge_any {w : World} {F : List Nat} {g : Nat} {s : G} (h : IsG w F g s) (hs : WF s.rows) (hm : 1 ≤ s.me ∧ s.me ≤ 8) (a : Option Addr) (l : List Row) (n k : Nat) (hn : n = l.length) (hl : Told l) (hr : RowAt w a l) (hb : ∀ x o, a = some ⟨x, o, none⟩ → x ∉ F ∧ x < w.heap.size) :
    Calls Try.prog 37 #[.pointer (some ⟨g, 0, none⟩), .slice a n k] w fun e w' => e = .returned (.int .i64 0) ∧ ∃ F', IsG w' F' g (gmerge s l) ∧ Fresh w F F' ∧ Upd F w w' := by
  have HG := hid h
  have HS := hid hs
  have HM := hid hm
  have HL := hid hl
  have HR := hid hr
  have HB := hid hb
  have HN := hid hn
  have hn8 : n ≤ 8 := by rw [hn]; exact hl.2.1
  clear h hs hm hl hr hb hn
  go_enter Try.func37, Try.ntmps37
  go_wp2_with fail
  go_loopg [14] n (fun d v14 wr => ∃ (i : Nat), v14 = .int .i64 (i : Int) ∧ i ≤ n ∧ Hid (i + d = n) ∧ Hid (Upd [] w wr))
  case atStart => exact ⟨0, rfl, by omega, hid (by omega), hid (Upd.refl _ _)⟩
  case round =>
    obtain ⟨i, rfl, hi, Hd, HU⟩ := hrel
    by_cases hin : i < n
    · have hil : i < l.length := by rw [← HN.out]; exact hin
      obtain ⟨r, o, rfl, c0, c1, c2⟩ := HR.out.upd HU.out (fun _ _ _ hs => by cases hs) i hil
      obtain ⟨x, hx⟩ : ∃ x, x = l.getD i noRow := ⟨_, rfl⟩
      have hok := HL.out.2.2 i hil
      rw [← hx] at c0 c1 c2 hok
      obtain ⟨nd, tn, sa⟩ := x
      obtain ⟨k1, k2, k3, k4, k5⟩ := hok
      simp only at c0 c1 c2 k1 k2 k3 k4 k5
      have b1 : ¬ (nd : Int) < 1 := by omega
      have b2 : ¬ (8 : Int) < (nd : Int) := by omega
      have b3 : ¬ (tn : Int) < 0 := by omega
      have b4 : ¬ (1099511627776 : Int) < (tn : Int) := by omega
      have b5 : ¬ (sa : Int) < 1 := by omega
      have b6 : ¬ (3 : Int) < (sa : Int) := by omega
      have hi' : (i : Int) < (n : Int) := by omega
      have HX := hid hx
      clear hx k1 k2 k3 k4 k5 hil
      by_cases h0 : i = 0
      · subst h0
        simp only [Nat.zero_mul, Nat.add_zero] at c0 c1 c2
        go_upto_region 8 with (fail)
        go_quiet (fail)
        go_wp2_with fail
        go_roundg (n - (0 + 1))
        case measure => have := Hd.out; omega
        case rel => exact ⟨0 + 1, by go_num, by omega, hid (by omega), hid ((HU.out.alloc _).drewN _)⟩
      · have hg0 : (0 : Int) < (i : Int) := by omega
        obtain ⟨j, hj⟩ : ∃ j, i = j + 1 := ⟨i - 1, by omega⟩
        obtain ⟨r', o', e', p0, -, -⟩ := HR.out.upd HU.out (fun _ _ _ hs => by cases hs) j (by rw [← HN.out]; omega)
        cases e'
        have hlt := HL.out.1 j i (by omega) (by rw [← HN.out]; exact hin)
        obtain ⟨pn, hpn⟩ : ∃ pn, pn = (l.getD j noRow).node := ⟨_, rfl⟩
        rw [← HX.out, ← hpn] at hlt
        rw [← hpn] at p0
        simp only at hlt
        have hlt' : ¬ (nd : Int) ≤ (pn : Int) := by omega
        have hjn : (j : Int) < (n : Int) := by omega
        have hw1 : IntKind.i64.wrap ((i : Int) - 1) = (j : Int) := by rw [show (i : Int) - 1 = (j : Int) by omega]; exact IntWalk.i64_in _ (by omega)
        have HJ := hid hj
        clear hpn hlt h0 hj
        go_upto_region 8 with (fail)
        have p1 := ((Upd.refl [] wr).alloc (.cells #[.int .i64 (nd : Int), .int .i64 (tn : Int), .int .i64 (sa : Int)] 65)).cell p0 (by simp)
        have x1 := (K.blk_cell (K.blk_new wr (.cells #[.int .i64 (nd : Int), .int .i64 (tn : Int), .int .i64 (sa : Int)] 65)) 0).trans rfl
        obtain ⟨wq, hwq⟩ : ∃ wq, wq = wr.alloc (.cells #[.int .i64 (nd : Int), .int .i64 (tn : Int), .int .i64 (sa : Int)] 65) := ⟨_, rfl⟩
        obtain ⟨X, hX⟩ : ∃ X, X = wr.heap.size := ⟨_, rfl⟩
        rw [← hwq] at p1 x1 ⊢
        rw [← hX] at x1 ⊢
        have HWQ := hid hwq
        clear hwq hX c0 c1 c2 p0
        have hg2 : 0 < i := by omega
        go_quiet (fail)
        go_wp2_with fail
        go_roundg (n - (i + 1))
        case measure => have := Hd.out; omega
        case rel => exact ⟨i + 1, by go_num, by omega, hid (by omega), hid (by rw [HWQ.out]; exact ((HU.out.alloc _).drewN _))⟩
    · have hni : ¬ (i : Int) < (n : Int) := by omega
      go_wp2_with fail
      go_loopg [63] n (fun d v63 wz => ∃ (j : Nat) (F' : List Nat), v63 = .int .i64 (j : Int) ∧ j ≤ n ∧ Hid (j + d = n) ∧ Hid (IsG wz F' g (gmerge s (l.take j))) ∧ Hid (Fresh w F F') ∧ Hid (Upd F w wz))
      case atStart => exact ⟨0, F, rfl, by omega, hid (by omega), hid (HG.out.new HU.out), hid (fun x hx => .inl hx), hid (HU.out.mono (fun x hx => by cases hx))⟩
      case round =>
        clear HU Hd hin hni
        obtain ⟨j, F', rfl, hj, Hd, HI, HF, HU⟩ := hrel
        by_cases hin : j < n
        · have hil : j < l.length := by rw [← HN.out]; exact hin
          obtain ⟨r, o, rfl, c0, c1, c2⟩ := HR.out.upd HU.out (fun x o e => (HB.out x o e).1) j hil
          obtain ⟨x, hx⟩ : ∃ x, x = l.getD j noRow := ⟨_, rfl⟩
          rw [← hx] at c0 c1 c2
          obtain ⟨nd, tn, sa⟩ := x
          simp only at c0 c1 c2
          have hj' : (j : Int) < (n : Int) := by omega
          have HX := hid hx
          clear hx
          go_wp2_with fail
          have hwf := HS.out.gmerge HM.out (l.take j) (fun q hq => by
            have hq2 : q < j ∧ q < l.length := by simp at hq; omega
            rw [List.getD_eq_getElem?_getD, List.getElem?_take_of_lt hq2.1, ← List.getD_eq_getElem?_getD]
            exact HL.out.2.2 q hq2.2)
          have hok : RowOk ⟨nd, tn, sa⟩ := by rw [HX.out]; exact HL.out.2.2 j hil
          refine (put_any (HI.out.new ((Upd.refl [] wr).alloc (.cells #[.int .i64 (nd : Int), .int .i64 (tn : Int), .int .i64 (sa : Int)] 65))) hwf.1 ⟨nd, tn, sa⟩ hok).mono ?_
          rintro e wy ⟨rfl, F2, h1, h2, h3⟩
          have H1 := hid h1
          have H2 := hid h2
          have H3 := hid h3
          clear h1 h2 h3
          go_wp2_with fail
          go_roundg (n - (j + 1))
          case measure => have := Hd.out; omega
          case rel =>
            refine ⟨j + 1, F2, by go_num, by omega, hid (by omega), hid ?_, hid (fun x hx => ?_), hid ?_⟩
            · rw [gmerge_snoc s l j hil, ← HX.out]; exact H1.out
            · have hsz := HU.out.size
              have hsa : wr.heap.size ≤ (wr.alloc (.cells #[.int .i64 (nd : Int), .int .i64 (tn : Int), .int .i64 (sa : Int)] 65)).heap.size := ((Upd.refl [] wr).alloc _).size
              rcases H2.out x hx with q | q
              · exact HF.out x q
              · exact .inr (by omega)
            · exact (HU.out.alloc _).trans H3.out (fun x hx => HF.out x hx)
        · have hni : ¬ (j : Int) < (n : Int) := by omega
          go_wp2_with fail
          go_ret
          have e : j = n := by omega
          exact ⟨rfl, F', by have h := HI.out; rw [e, HN.out, List.take_length] at h; exact h, HF.out, HU.out⟩
end Go.Proofs.Ytgkjkgooonicbaa.Gs
