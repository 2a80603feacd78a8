/- Programs as the laws make them: rows in blocks of their own; Progs. -/
import Derived.Test.YtklacfdbpmkiiaaYi
namespace Go.Proofs.Ytklacfdbpmkiiaa.Y
open Go Go.RowKit Go.Proofs.Ytklacfdbpmkiiaa Go.Proofs.Ytklacfdbpmkiiaa.K Go.Proofs.Ytklacfdbpmkiiaa.M Go.Proofs.Ytklacfdbpmkiiaa.O Go.Proofs.Ytklacfdbpmkiiaa.R Go.Proofs.Ytklacfdbpmkiiaa.A Go.Proofs.Ytklacfdbpmkiiaa.MS
open Go.Proofs.Ytklacfdbpmkiiaa.X (D St Ps noD act wr dep may newC newH stp)

/-- Three programs, each in a block of its own. -/
structure PB (w : World) (B g : Nat) (us : List Value) (P : Ps) : Prop where
  pl : P.length = 3
  ul : us.length = 3
  gB : B ≤ g
  blk : w.heap[g]? = some (.cells us.toArray 46 (0, 0))
  own : ∀ i, i < 3 → w.ownsRow B 49 3 (us.getD i undef) (P.getD i []).length (dcells (P.getD i []))
  apart : ∀ i j k, i < 3 → j < 3 → (us.getD i undef).ownBlock = some k → (us.getD j undef).ownBlock = some k → i = j
  nil : ∀ i, i < 3 → P.getD i [] = [] → us.getD i undef = .slice none 0 0
theorem getD_setL {α : Type} (R : List α) (i k : Nat) (x d : α) (hi : i < R.length) : (R.set i x).getD k d = if i = k then x else R.getD k d := by
  rw [List.getD_eq_getElem?_getD, List.getElem?_set, List.getD_eq_getElem?_getD]
  by_cases c : i = k
  · subst c; simp [hi]
  · simp [c]
theorem PB.new {w w' : World} {B g : Nat} {us : List Value} {P : Ps} (h : PB w B g us P) (u : Upd [] w w') : PB w' B g us P :=
  ⟨h.pl, h.ul, h.gB, u.blk h.blk (by simp), fun i hi => own_new (h.own i hi) u, h.apart, h.nil⟩
theorem PB.cell {w : World} {B g : Nat} {us : List Value} {P : Ps} (h : PB w B g us P) {i : Nat} (hi : i < 3) : w.cell? ⟨g, i, none⟩ = some (us.getD i undef) := by
  rw [K.blk_cell h.blk]
  have : i < us.length := by rw [h.ul]; exact hi
  rw [List.getD_eq_getElem?_getD, List.getElem?_eq_getElem this]
  simp [this]
theorem PB.pAt {w : World} {B g : Nat} {us : List Value} {P : Ps} (h : PB w B g us P) : PAt w (some ⟨g, 0, none⟩) P := fun i hi => by
  rw [h.pl] at hi
  have hu : us.toArray[i]? = some (us.getD i undef) := by
    have : i < us.length := by rw [h.ul]; exact hi
    rw [List.getD_eq_getElem?_getD, List.getElem?_eq_getElem this]; simp [this]
  rcases (h.own i hi).2 with ⟨e, h0⟩ | ⟨q, cap, cur, e, hb, hq, h1, h2, h3, h4⟩
  · rw [e] at hu
    refine ⟨g, _, none, 0, rfl, h.blk, by rw [hu, h0], by omega, by omega, fun k hk => by omega⟩
  · rw [e] at hu
    refine ⟨g, _, some ⟨q, 0, none⟩, cap, rfl, h.blk, hu, h1, by unfold maxLen at h2; omega, fun k hk => ?_⟩
    obtain ⟨d0, d1, d2⟩ := dcells_get (P.getD i []) k hk
    have gt : ∀ z v, (dcells (P.getD i []))[z]? = some v → cur[z]? = some v := fun z v hz => by
      rw [← h4] at hz
      by_cases hlt : z < (P.getD i []).length * 3
      · rw [List.getElem?_take, if_pos hlt] at hz; simpa using hz
      · rw [List.getElem?_take, if_neg hlt] at hz; cases hz
    exact ⟨q, cur, rfl, hq, gt _ _ d0, gt _ _ d1, gt _ _ d2⟩
theorem PB.pNil {w : World} {B g : Nat} {us : List Value} {P : Ps} (h : PB w B g us P) : PNil w (some ⟨g, 0, none⟩) P := fun i hi he => by
  rw [h.pl] at hi
  refine ⟨g, _, rfl, h.blk, ?_⟩
  have : i < us.length := by rw [h.ul]; exact hi
  have hn := h.nil i hi he
  rw [List.getD_eq_getElem?_getD, List.getElem?_eq_getElem this] at hn
  simp [this]
  simpa using hn
theorem PB.start (w : World) (B : Nat) (hB : B ≤ w.heap.size) : PB (w.alloc (.cells #[.slice none 0 0, .slice none 0 0, .slice none 0 0] 46)) B w.heap.size [.slice none 0 0, .slice none 0 0, .slice none 0 0] [[], [], []] :=
  ⟨rfl, rfl, hB, K.blk_new w _, fun i hi => by
    rcases (show i = 0 ∨ i = 1 ∨ i = 2 by omega) with rfl | rfl | rfl <;> exact World.ownsRow_nil _ _ _ _, fun i j k hi hj h1 _ => (by
    rcases (show i = 0 ∨ i = 1 ∨ i = 2 by omega) with rfl | rfl | rfl <;> cases h1), fun i hi _ => by
    rcases (show i = 0 ∨ i = 1 ∨ i = 2 by omega) with rfl | rfl | rfl <;> rfl⟩
/-- One of the rows has turned. -/
theorem PB.turn {w w' : World} {B g : Nat} {us : List Value} {P : Ps} (h : PB w B g us P) {r : Nat} (hr : r < 3) {v' : Value} {x : List D} (u : Upd (us.getD r undef).ownBlock.toList w w') (ho : w'.ownsRow B 49 3 v' x.length (dcells x)) (hv : ∀ k, v'.ownBlock = some k → (us.getD r undef).ownBlock = some k ∨ w.heap.size ≤ k) (hx : x ≠ []) :
    PB (w'.setCell ⟨g, r, none⟩ v') B g (us.set r v') (P.set r x) := by
  have hb : w'.heap[g]? = some (.cells us.toArray 46 (0, 0)) := u.blk h.blk (fun hm => own_cells_ne (h.own r hr) h.blk (by decide) _ (by simpa using hm) rfl)
  have ug : Upd [g] w' (w'.setCell ⟨g, r, none⟩ v') := (Upd.refl _ _).setCell (.inl (by simp)) _
  have lt : ∀ i k, i < 3 → (us.getD i undef).ownBlock = some k → k < w.heap.size := fun i k hi hk => own_lt (h.own i hi) k hk
  have hg49 : ∀ {v : Value} {n : Nat} {xs : List Value}, w'.ownsRow B 49 3 v n xs → ∀ k, v.ownBlock = some k → k ∉ [g] := fun hown k hk hm => by
    have e : k = g := by simpa using hm
    subst e; exact own_cells_ne hown hb (by decide) _ hk rfl
  refine ⟨by rw [List.length_set]; exact h.pl, by rw [List.length_set]; exact h.ul, h.gB, ?_, fun i hi => ?_, fun i j k hi hj h1 h2 => ?_, fun i hi he => ?_⟩
  · have := K.blk_set hb r v'
    simpa using this
  · rw [getD_setL us r i v' undef (by rw [h.ul]; exact hr), getD_setL P r i x [] (by rw [h.pl]; exact hr)]
    by_cases e : r = i
    · rw [if_pos e, if_pos e]; exact own_upd ho ug (hg49 ho)
    · rw [if_neg e, if_neg e]
      have h0 := own_upd (h.own i hi) u (fun k hk hm => e (h.apart r i k hr hi (by simpa using hm) hk))
      exact own_upd h0 ug (hg49 h0)
  · rw [getD_setL us r i v' undef (by rw [h.ul]; exact hr)] at h1
    rw [getD_setL us r j v' undef (by rw [h.ul]; exact hr)] at h2
    by_cases e : r = i
    · by_cases e2 : r = j
      · omega
      · rw [if_pos e] at h1; rw [if_neg e2] at h2
        rcases hv k h1 with q | q
        · exact absurd (h.apart r j k hr hj q h2) e2
        · have := lt j k hj h2; omega
    · by_cases e2 : r = j
      · rw [if_neg e] at h1; rw [if_pos e2] at h2
        rcases hv k h2 with q | q
        · exact absurd (h.apart r i k hr hi q h1) e
        · have := lt i k hi h1; omega
      · rw [if_neg e] at h1; rw [if_neg e2] at h2
        exact h.apart i j k hi hj h1 h2
  · rw [getD_setL P r i x [] (by rw [h.pl]; exact hr)] at he
    rw [getD_setL us r i v' undef (by rw [h.ul]; exact hr)]
    by_cases e : r = i
    · rw [if_pos e] at he; exact absurd he hx
    · rw [if_neg e] at he ⊢; exact h.nil i hi he
/-- What Progs makes. -/
structure Gd (P : Ps) (k : Nat) : Prop where
  pl : P.length = 3
  sum : (P.map List.length).sum = k
  do' : ∀ l ∈ P, ∀ d ∈ l, 1 ≤ d.kind ∧ d.kind ≤ 4 ∧ d.cell < 4 ∧ d.val ≤ 2
theorem Gd.ok {P : Ps} {k : Nat} (h : Gd P k) (hk : k ≤ 12) : Ok P := ⟨by rw [h.pl]; decide, h.do', by rw [h.sum]; exact hk⟩
theorem Gd.start : Gd [[], [], []] 0 := ⟨rfl, rfl, fun l hl d hd => by simp at hl; subst hl; cases hd⟩
theorem sum_set : ∀ (l : List Nat) (r x : Nat), r < l.length → (l.set r x).sum + l.getD r 0 = l.sum + x
  | [], r, x, h => by simp at h
  | y :: l, 0, x, h => by simp; omega
  | y :: l, r + 1, x, h => by
    have := sum_set l r x (by simpa using h)
    simp only [List.set_cons_succ, List.sum_cons, List.getD_cons_succ]; omega
theorem Gd.push {P : Ps} {k : Nat} (h : Gd P k) {r : Nat} (hr : r < 3) {d : D} (hd : 1 ≤ d.kind ∧ d.kind ≤ 4 ∧ d.cell < 4 ∧ d.val ≤ 2) : Gd (P.set r (P.getD r [] ++ [d])) (k + 1) := by
  have hrl : r < P.length := by rw [h.pl]; exact hr
  refine ⟨by rw [List.length_set]; exact h.pl, ?_, fun l hl q hq => ?_⟩
  · rw [List.map_set]
    have := sum_set (P.map List.length) r (P.getD r [] ++ [d]).length (by rw [List.length_map]; exact hrl)
    have e : (P.map List.length).getD r 0 = (P.getD r []).length := by
      rw [List.getD_eq_getElem?_getD, List.getElem?_map, List.getD_eq_getElem?_getD, List.getElem?_eq_getElem hrl]; rfl
    rw [e, h.sum, List.length_append] at this
    simp only [List.length_cons, List.length_nil] at this
    rw [List.length_append]; simp only [List.length_cons, List.length_nil]
    omega
  · rcases List.mem_or_eq_of_mem_set hl with q1 | q1
    · exact h.do' l q1 q hq
    · subst q1
      rcases List.mem_append.1 hq with q2 | q2
      · exact h.do' _ (X.mem_getD P r [] hrl) q q2
      · have : q = d := by simpa using q2
        subst this; exact hd
theorem make3 : ∀ w, (Instr.makeSlice 23 (.int .i64 3) (.int .i64 3)).run Try.prog w = .ok (.slice (some ⟨w.heap.size, 0, none⟩) 3 3) (w.alloc (.cells #[.slice none 0 0, .slice none 0 0, .slice none 0 0] 46)) := fun w => by
  kernel_rfl

set_option maxHeartbeats 8000000 in
set_option maxRecDepth 100000 in
theorem progs_any (a : Option Addr) (len cap : Nat) (xs : List Int) (most : Nat) (w : World) (hx : IntRow w a xs) (hl : xs.length = len) (hlc : len ≤ cap) (hc : cap ≤ 9223372036854775807) (hm : most ≤ 12) :
    Calls Try.prog 8 #[.slice a len cap, .int .i64 (most : Int)] w fun e w' => ∃ g us P, e = .returned (.slice (some ⟨g, 0, none⟩) 3 3) ∧ PB w' w.heap.size g us P ∧ Gd P (min len most) ∧ Upd [] w w' := by
  obtain ⟨i49, hi49, hz49a, hz49b, hz49c⟩ := info_parts info49
  have HI49 := hid hi49
  have HA49 := hid hz49a
  have HB49 := hid hz49b
  have HC49 := hid hz49c
  have HX := hid hx
  have HL := hid hl
  clear hx hl hi49 hz49a hz49b hz49c
  obtain ⟨n, hn⟩ : ∃ n : Nat, min (len : Int) (most : Int) = (n : Int) := ⟨min len most, by omega⟩
  have hmin := fun ats ty => min_nat ats ty .i64 .i64 (len : Int) (most : Int) n hn
  have hn1 : n ≤ len := by omega
  have hn2 : n ≤ 12 := by omega
  have HN : Hid (n = min len most) := by show _ = _; omega
  clear hn
  obtain ⟨B, hB⟩ : ∃ B, B = w.heap.size := ⟨_, rfl⟩
  have HBS := hid hB
  rw [← hB]
  have hmk := make3
  have P1 := hid (PB.start w B (by rw [hB]; exact Nat.le_refl _))
  have U1 := hid (((Upd.refl [] w).alloc (.cells #[.slice none 0 0, .slice none 0 0, .slice none 0 0] 46)))
  obtain ⟨g, hg⟩ : ∃ g, g = w.heap.size := ⟨_, rfl⟩
  rw [← hg] at P1
  clear hB
  go_enter Try.func8, Try.ntmps8
  go_wp2_with fail
  rw [← hg]
  clear hg hmk hmin
  go_loopg [16] n (fun d v16 wr => ∃ (j : Nat) (us : List Value) (P : Ps), v16 = .int .i64 (j : Int) ∧ j ≤ n ∧ Hid (j + d = n) ∧ Hid (PB wr B g us P) ∧ Hid (Gd P j) ∧ Hid (Upd [] w wr))
  case atStart => exact ⟨0, _, _, rfl, by omega, hid (by omega), P1, Gd.start, U1⟩
  case round =>
    clear P1 U1
    obtain ⟨j, us, P, rfl, hjn, Hj, HP, HG, HU⟩ := hrel
    by_cases hj : j < n
    · have hj' : (j : Int) < (n : Int) := by omega
      obtain ⟨x, rfl, hc0⟩ := HX.out.upd HU.out j (by rw [HL.out]; omega)
      obtain ⟨k, hk⟩ : ∃ k, k = xs.getD j 0 := ⟨_, rfl⟩
      rw [← hk] at hc0
      obtain ⟨r, hr⟩ : ∃ r, r = restN k 3 := ⟨_, rfl⟩
      have hr3 : r < 3 := by have := restN_lt k 3 (by omega); omega
      have R3 := hid fun (wz : World) => rest_any k 3 wz (by omega) (by omega)
      rw [← hr] at R3
      obtain ⟨u, hu⟩ : ∃ u, u = us.getD r undef := ⟨_, rfl⟩
      obtain ⟨av, kv, ev, -, -, -⟩ := own_view (HP.out.own r hr3)
      rw [← hu] at ev
      have KEEP := hid (show ∀ wz, Upd [] wr wz → wz.cell? ⟨g, r, none⟩ = some u from fun wz uz => by rw [hu]; exact (HP.out.new uz).cell hr3)
      have HUU := hid hu
      subst ev
      have hr3i : (r : Int) < 3 := by omega
      have hr3n : ¬ (r : Int) < 0 := by omega
      clear hk hr hu
      go_upto_region 5 with (fail)
      refine J.J_begin (fun wz => wz.cell? ⟨g, r, none⟩ = some (.slice av (P.getD r []).length kv)) 24 (by kernel_rfl) ⟨by kernel_rfl, by kernel_rfl, by kernel_rfl⟩ (KEEP.out _ ((Upd.refl [] wr).drew)) (fun LAST HS => ?_)
      refine J.J_take (i := 0) (v := ?_) LAST (by rfl) (by decide) (by kernel_rfl) (by kernel_rfl) (by intro _ _ _ h; exact h) HS (Or.inl ⟨by rfl, ?_⟩) ?_
      rotate_left
      · intro w hSw; (try dsimp only at hSw); go_simp; try with_reducible rfl
      try simp only [Act.put, List.setIfInBounds_toArray, List.set_cons_zero, List.set_cons_succ]
      refine J.J_take (i := 1) (v := ?_) LAST (by rfl) (by decide) (by kernel_rfl) (by kernel_rfl) (by intro _ _ _ h; exact h) HS (Or.inl ⟨by rfl, ?_⟩) ?_
      rotate_left
      · intro w hSw; (try dsimp only at hSw); go_simp; try with_reducible rfl
      try simp only [Act.put, List.setIfInBounds_toArray, List.set_cons_zero, List.set_cons_succ]
      refine J.J_take (i := 3) (v := ?_) LAST (by rfl) (by decide) (by kernel_rfl) (by kernel_rfl) (by intro _ _ _ h; exact h) HS (Or.inl ⟨by rfl, ?_⟩) ?_
      rotate_left
      · intro w hSw; (try dsimp only at hSw); go_simp; try with_reducible rfl
      try simp only [Act.put, List.setIfInBounds_toArray, List.set_cons_zero, List.set_cons_succ]
      refine J.J_take (i := 4) (v := ?_) LAST (by rfl) (by decide) (by kernel_rfl) (by kernel_rfl) (by intro _ _ _ h; exact h) HS (Or.inl ⟨by rfl, ?_⟩) ?_
      rotate_left
      · intro w hSw; (try dsimp only at hSw); go_simp; try with_reducible rfl
      try simp only [Act.put, List.setIfInBounds_toArray, List.set_cons_zero, List.set_cons_succ]
      refine J.J_take (i := 8) (v := ?_) LAST (by rfl) (by decide) (by kernel_rfl) (by kernel_rfl) (by intro _ _ _ h; exact h) HS (Or.inl ⟨by rfl, ?_⟩) ?_
      rotate_left
      · intro w hSw; (try dsimp only at hSw); go_simp; try with_reducible rfl
      try simp only [Act.put, List.setIfInBounds_toArray, List.set_cons_zero, List.set_cons_succ]
      refine J.J_take (i := 9) (v := ?_) LAST (by rfl) (by decide) (by kernel_rfl) (by kernel_rfl) (by intro _ _ _ h; exact h) HS (Or.inl ⟨by rfl, ?_⟩) ?_
      rotate_left
      · intro w hSw; (try dsimp only at hSw); go_simp; try with_reducible rfl
      try simp only [Act.put, List.setIfInBounds_toArray, List.set_cons_zero, List.set_cons_succ]
      refine J.J_take (i := 12) (v := ?_) LAST (by rfl) (by decide) (by kernel_rfl) (by kernel_rfl) (by intro _ _ _ h; exact h) HS (Or.inl ⟨by rfl, ?_⟩) ?_
      rotate_left
      · intro w hSw; (try dsimp only at hSw); go_simp; try with_reducible rfl
      try simp only [Act.put, List.setIfInBounds_toArray, List.set_cons_zero, List.set_cons_succ]
      refine J.J_take (i := 13) (v := ?_) LAST (by rfl) (by decide) (by kernel_rfl) (by kernel_rfl) (by intro _ _ _ h; exact h) HS (Or.inl ⟨by rfl, ?_⟩) ?_
      rotate_left
      · intro w hSw; (try dsimp only at hSw); go_simp; try with_reducible rfl
      try simp only [Act.put, List.setIfInBounds_toArray, List.set_cons_zero, List.set_cons_succ]
      refine J.J_take (i := 15) (v := ?_) LAST (by rfl) (by decide) (by kernel_rfl) (by kernel_rfl) (by intro _ _ _ h; exact h) HS (Or.inl ⟨by rfl, ?_⟩) ?_
      rotate_left
      · intro w hSw; (try dsimp only at hSw); go_simp; try with_reducible rfl
      try simp only [Act.put, List.setIfInBounds_toArray, List.set_cons_zero, List.set_cons_succ]
      refine J.J_take (i := 16) (v := ?_) LAST (by rfl) (by decide) (by kernel_rfl) (by kernel_rfl) (by intro _ _ _ h; exact h) HS (Or.inl ⟨by rfl, ?_⟩) ?_
      rotate_left
      · intro w hSw; (try dsimp only at hSw); go_simp; try with_reducible rfl
      try simp only [Act.put, List.setIfInBounds_toArray, List.set_cons_zero, List.set_cons_succ]
      refine J.J_take (i := 17) (v := ?_) LAST (by rfl) (by decide) (by kernel_rfl) (by kernel_rfl) (by intro _ _ _ h; exact h) HS (Or.inl ⟨by rfl, ?_⟩) ?_
      rotate_left
      · intro w hSw; (try dsimp only at hSw); go_simp; try with_reducible rfl
      try simp only [Act.put, List.setIfInBounds_toArray, List.set_cons_zero, List.set_cons_succ]
      refine J.J_take (i := 18) (v := ?_) LAST (by rfl) (by decide) (by kernel_rfl) (by kernel_rfl) (by intro _ _ _ h; exact h) HS (Or.inl ⟨by rfl, ?_⟩) ?_
      rotate_left
      · intro w hSw; (try dsimp only at hSw); go_simp; try with_reducible rfl
      try simp only [Act.put, List.setIfInBounds_toArray, List.set_cons_zero, List.set_cons_succ]
      refine J.J_one (i := 2) (by rfl) (by decide) (by kernel_rfl) (fun KK hK => ?_)
      go_simp
      refine (R3.out _).mono ?_
      rintro e w2 ⟨rfl, rfl⟩
      go_simp
      refine hK.out _ _ HS ?_
      clear hK KK
      try simp only [List.setIfInBounds_toArray]
      refine J.J_one (i := 5) (by rfl) (by decide) (by kernel_rfl) (fun KK hK => ?_)
      go_simp
      refine (R3.out _).mono ?_
      rintro e w2 ⟨rfl, rfl⟩
      go_simp
      refine hK.out _ _ HS ?_
      clear hK KK
      try simp only [List.setIfInBounds_toArray]
      refine J.J_take (i := 6) (v := ?_) LAST (by rfl) (by decide) (by kernel_rfl) (by kernel_rfl) (by intro _ _ _ h; exact h) HS (Or.inl ⟨by rfl, ?_⟩) ?_
      rotate_left
      · intro w hSw; (try dsimp only at hSw); go_simp; try with_reducible rfl
      try simp only [Act.put, List.setIfInBounds_toArray, List.set_cons_zero, List.set_cons_succ]
      refine J.J_take (i := 7) (v := ?_) LAST (by rfl) (by decide) (by kernel_rfl) (by kernel_rfl) (by intro _ _ _ h; exact h) HS (Or.inl ⟨by rfl, ?_⟩) ?_
      rotate_left
      · intro w hSw; (try dsimp only at hSw); go_simp; try with_reducible rfl
      try simp only [Act.put, List.setIfInBounds_toArray, List.set_cons_zero, List.set_cons_succ]
      refine J.J_one (i := 10) (by rfl) (by decide) (by kernel_rfl) (fun KK hK => ?_)
      go_simp
      refine (rest_some _ _ _ (by omega) (by omega)).mono ?_
      rintro e w2 ⟨kd, hkd, -, rfl, rfl⟩
      go_simp
      refine hK.out _ _ HS ?_
      clear hK KK
      try simp only [List.setIfInBounds_toArray]
      have hkd4 : kd < 4 := by omega
      refine J.J_take (i := 11) (v := ?_) LAST (by rfl) (by decide) (by kernel_rfl) (by kernel_rfl) (by intro _ _ _ h; exact h) HS (Or.inl ⟨by rfl, ?_⟩) ?_
      rotate_left
      · intro w hSw; (try dsimp only at hSw); go_simp; try with_reducible rfl
      try simp only [Act.put, List.setIfInBounds_toArray, List.set_cons_zero, List.set_cons_succ]
      refine J.J_one (i := 14) (by rfl) (by decide) (by kernel_rfl) (fun KK hK => ?_)
      go_simp
      refine (rest_some _ _ _ (by omega) (by omega)).mono ?_
      rintro e w2 ⟨cc, hcc, -, rfl, rfl⟩
      go_simp
      refine hK.out _ _ HS ?_
      clear hK KK
      try simp only [List.setIfInBounds_toArray]
      refine J.J_one (i := 19) (by rfl) (by decide) (by kernel_rfl) (fun KK hK => ?_)
      go_simp
      refine (rest_some _ _ _ (by omega) (by omega)).mono ?_
      rintro e w2 ⟨vv, hvv, -, rfl, rfl⟩
      go_simp
      refine hK.out _ _ HS ?_
      clear hK KK
      try simp only [List.setIfInBounds_toArray]
      have hcc3 : cc < 3 := by omega
      have hvv3 : vv < 3 := by omega
      refine J.J_take (i := 20) (v := ?_) LAST (by rfl) (by decide) (by kernel_rfl) (by kernel_rfl) (by intro _ _ _ h; exact h) HS (Or.inl ⟨by rfl, ?_⟩) ?_
      rotate_left
      · intro w hSw; (try dsimp only at hSw); go_simp; try with_reducible rfl
      try simp only [Act.put, List.setIfInBounds_toArray, List.set_cons_zero, List.set_cons_succ]
      refine J.J_one (i := 21) (by rfl) (by decide) (by kernel_rfl) (fun KK hK => ?_)
      go_simp
      have hw1 : IntKind.i64.wrap (1 + (kd : Int)) = ((kd + 1 : Nat) : Int) := by rw [IntWalk.i64_in _ (by omega)]; omega
      rw [hw1]
      clear hw1
      obtain ⟨kq, hkq⟩ : ∃ kq, kq = kd + 1 := ⟨_, rfl⟩
      rw [← hkq]
      have hkb : 1 ≤ kq ∧ kq ≤ 4 := by omega
      clear hkq
      refine hK.out _ _ (KEEP.out _ (((Upd.refl [] wr).alloc _).drew)) ?_
      clear hK KK HS
      try simp only [List.setIfInBounds_toArray]
      have hbn := K.blk_new wr (.cells #[.int .i64 (kq : Int), .int .i64 (cc : Int), .int .i64 (vv : Int)] 49)
      obtain ⟨W2, hW2⟩ : ∃ W2, W2 = (wr.alloc (.cells #[.int .i64 (kq : Int), .int .i64 (cc : Int), .int .i64 (vv : Int)] 49)).drew := ⟨_, rfl⟩
      have hb2 : W2.heap[wr.heap.size]? = some (.cells #[.int .i64 (kq : Int), .int .i64 (cc : Int), .int .i64 (vv : Int)] 49 (0, 0)) := by rw [hW2]; exact hbn
      have UW := hid (show Upd [] wr W2 by rw [hW2]; exact ((Upd.refl [] wr).alloc _).drew)
      rw [← hW2]
      clear hW2 hbn
      have hP2 := HP.out.new UW.out
      have HOW := hid (hP2.own r hr3)
      rw [← HUU.out] at HOW
      refine J.J_one (i := 22) (by rfl) (by decide) (by kernel_rfl) (fun KK hK => ?_)
      have hln : (P.getD r []).length ≤ 12 := by
        have h1 := le_sum (List.mem_map.2 ⟨_, X.mem_getD P r [] (by rw [HG.out.pl]; exact hr3), rfl⟩ : (P.getD r []).length ∈ P.map List.length)
        rw [HG.out.sum] at h1; omega
      refine J.step_app rfl (.tmp 28) (.tmp 42) 46 rfl B 49 i49 _ 3 24 Try.underlying46 HI49.out HA49.out HB49.out HC49.out rfl (by decide) (.slice av (P.getD r []).length kv) (P.getD r []).length (dcells (P.getD r [])) (by rfl) HOW.out ⟨wr.heap.size, 0, none⟩ 1 1 [.int .i64 (kq : Int), .int .i64 (cc : Int), .int .i64 (vv : Int)] (by rfl) rfl (fun q uu hq => by rw [add0]; refine (K.blk_cell hb2 q).trans ?_; simpa using hq) (by intro uu hu; simp at hu; rcases hu with rfl | rfl | rfl <;> rfl) (by unfold maxLen; omega) (by omega) (Nat.le_trans (by rw [HBS.out]; exact HU.out.size) UW.out.size) ?_
      intro v9 w9 ho hu9 hv9
      obtain ⟨a9, k9, e9, -, -, -⟩ := own_view ho
      subst e9
      have HO9 := hid ho
      have HU9 := hid hu9
      have HV9 := hid hv9
      have b9 := hu9.blk hP2.blk (fun hm => own_cells_ne HOW.out hP2.blk (by decide) _ (by simpa using hm) rfl)
      have hul : us.length = 3 := hP2.ul
      have c9 : w9.cell? ⟨g, r, none⟩ = some (.slice av (P.getD r []).length kv) := by
        rw [K.blk_cell b9, HUU.out, List.getD_eq_getElem?_getD, List.getElem?_eq_getElem (by rw [hul]; exact hr3)]
        simp [hul, hr3]
      have z9 := K.blk_frozen b9 r
      have HP2 := hid hP2
      clear ho hu9 hv9 b9 hP2 hb2
      have HS := c9
      refine hK.out _ _ c9 ?_
      clear hK KK
      try simp only [Act.put, List.setIfInBounds_toArray, List.set_cons_zero, List.set_cons_succ]
      refine J.J_take (i := 23) (v := ?_) LAST (by rfl) (by decide) (by kernel_rfl) (by kernel_rfl) (by intro _ _ _ h; exact h) HS (Or.inl ⟨by rfl, ?_⟩) ?_
      rotate_left
      · intro w hSw; (try dsimp only at hSw); go_simp; try with_reducible rfl
      try simp only [Act.put, List.setIfInBounds_toArray, List.set_cons_zero, List.set_cons_succ]
      refine J.J_last (by rfl) (by kernel_rfl) (by kernel_rfl) ?_
      go_simp
      go_wp2_with fail
      go_roundg (n - (j + 1))
      case measure => have := Hj.out; omega
      case rel =>
        have hd : 1 ≤ (⟨kq, cc, vv⟩ : D).kind ∧ (⟨kq, cc, vv⟩ : D).kind ≤ 4 ∧ (⟨kq, cc, vv⟩ : D).cell < 4 ∧ (⟨kq, cc, vv⟩ : D).val ≤ 2 := ⟨hkb.1, hkb.2, by show cc < 4; omega, by show vv ≤ 2; omega⟩
        have ht := HP2.out.turn hr3 (v' := .slice a9 ((P.getD r []).length + 1) k9) (x := P.getD r [] ++ [⟨kq, cc, vv⟩]) (by rw [← HUU.out]; exact HU9.out) (by rw [List.length_append, dcells_app]; exact HO9.out) (by rw [← HUU.out]; exact HV9.out) (by simp)
        refine ⟨j + 1, _, _, by go_num, by omega, by show _ = _; omega, ht, HG.out.push hr3 hd, ?_⟩
        have h1 := (HU.out.trans UW.out (by simp)).trans HU9.out (fun t ht => .inr (by rw [← HBS.out]; exact own_ge HOW.out t (by simpa using ht)))
        exact h1.setCell (.inr (by rw [← HBS.out]; exact HP.out.gB)) _
    · obtain rfl : n = j := by omega
      go_wp2_with fail
      go_ret
      exact ⟨g, us, P, rfl, HP.out, by rw [← HN.out]; exact HG.out, HU.out⟩
end Go.Proofs.Ytklacfdbpmkiiaa.Y
