/- Gossip: all hear of all; the walk of the statement GossipAgree. -/
import Derived.Test.YtgkjkgooonicbaaGx
namespace Go.Proofs.Ytgkjkgooonicbaa.Gs
open Go Go.RowKit Go.Proofs.Ytgkjkgooonicbaa Go.Proofs.Ytgkjkgooonicbaa.K Go.Proofs.Ytgkjkgooonicbaa.M Go.Proofs.Ytgkjkgooonicbaa.O Go.Proofs.Ytgkjkgooonicbaa.R

set_option maxHeartbeats 1000000 in
set_option maxRecDepth 100000 in
theorem not_lives (n t : Nat) (w : World) : Calls Try.prog 42 #[.agg #[.int .i64 (n : Int), .int .i64 (t : Int), .int .i64 1]] w fun e w' => e = .returned (.bool false) ∧ Upd [] w w' := by
  go_enter Try.func42, Try.ntmps42
  go_wp2_with fail
  go_ret
  exact ⟨rfl, (Upd.refl _ _).alloc _⟩
set_option maxHeartbeats 2000000 in
set_option maxRecDepth 100000 in
theorem index_none {w : World} (a : Option Addr) (l : List Row) (n k : Nat) (hn : n = l.length) (h : RowAt w a l) (h8 : l.length ≤ 100) (hs : ∀ i, i < l.length → (l.getD i noRow).says = 1) :
    Calls Try.prog 49 #[.slice a n k, .func (.func 42) #[] #[]] w fun e w' => e = .returned (.int .i64 (-1)) ∧ Upd [] w w' := by
  have HN := hid hn
  have H := hid h
  have HS := hid hs
  have hn1 : n ≤ 100 := by omega
  clear hn h hs h8
  go_enter Try.func49, Try.ntmps49
  go_wp2_with fail
  go_loopg [8] n (fun d v8 wr => ∃ (i : Nat), v8 = .int .i64 (i : Int) ∧ i ≤ n ∧ Hid (i + d = n) ∧ Hid (Upd [] w wr))
  case atStart => exact ⟨0, rfl, by omega, hid (by omega), hid (Upd.refl _ _)⟩
  case round =>
    obtain ⟨i, rfl, hi, Hd, HU⟩ := hrel
    by_cases hin : i < n
    · have hil : i < l.length := by rw [← HN.out]; exact hin
      obtain ⟨r, o, rfl, c0, c1, c2⟩ := H.out.upd HU.out (fun _ _ _ hs => by cases hs) i hil
      rw [HS.out i hil] at c2
      obtain ⟨nd, hnd⟩ : ∃ x, x = (l.getD i noRow).node := ⟨_, rfl⟩
      obtain ⟨tn, htn⟩ : ∃ x, x = (l.getD i noRow).turn := ⟨_, rfl⟩
      rw [← hnd] at c0
      rw [← htn] at c1
      have hi' : (i : Int) < (n : Int) := by omega
      clear hnd htn hil
      go_wp2_with fail
      refine (not_lives nd tn wr).mono ?_
      rintro e w2 ⟨rfl, hu⟩
      have HU2 := hid (HU.out.trans hu (fun t ht => by cases ht))
      clear hu c0 c1 c2
      go_wp2_with fail
      go_roundg (n - (i + 1))
      case measure => have := Hd.out; omega
      case rel => exact ⟨i + 1, by go_num, by omega, hid (by omega), HU2⟩
    · go_wp2_with fail
      go_ret
      exact ⟨rfl, HU.out⟩
set_option maxHeartbeats 2000000 in
set_option maxRecDepth 100000 in
theorem contains_none {w : World} (a : Option Addr) (l : List Row) (n k : Nat) (hn : n = l.length) (h : RowAt w a l) (h8 : l.length ≤ 100) (hs : ∀ i, i < l.length → (l.getD i noRow).says = 1) :
    Calls Try.prog 41 #[.slice a n k, .func (.func 42) #[] #[]] w fun e w' => e = .returned (.bool false) ∧ Upd [] w w' := by
  have IX := hid (index_none a l n k hn h h8 hs)
  clear hn h h8 hs
  go_enter Try.func41, Try.ntmps41
  go_wp2_with fail
  refine IX.out.mono ?_
  rintro e w2 ⟨rfl, hu⟩
  have HU := hid hu
  clear hu
  go_wp2_with fail
  go_ret
  exact ⟨rfl, HU.out⟩

/-- Node j's word of node i. -/
def K (s : Nat → G) (j i : Nat) : Row := (s j).rows.getD i noRow
/-- Nobody says of a node more than it said itself; no turn is beyond t. -/
def Auth (t : Nat) (s : Nat → G) : Prop := ∀ i, i < 4 → (K s i i).turn ≤ t ∧ ∀ j, j < 4 → (K s j i).turn ≤ (K s i i).turn
def Four (t : Nat) (s : Nat → G) : Prop := (∀ i, i < 4 → Ok 4 i (s i)) ∧ Auth t s
theorem Four.later {t t' : Nat} {s : Nat → G} (h : Four t s) (ht : t ≤ t') : Four t' s := ⟨h.1, fun i hi => ⟨Nat.le_trans (h.2 i hi).1 ht, (h.2 i hi).2⟩⟩
theorem K_upf (s : Nat → G) (i : Nat) (s' : G) (j k : Nat) : K (upf s i s') j k = if j = i then s'.rows.getD k noRow else K s j k := by
  unfold K upf
  split <;> rfl
theorem Four.same {t i : Nat} {s : Nat → G} {s' : G} (h : Four t s) (ho : Ok 4 i s') (ht : ∀ k, (s'.rows.getD k noRow).turn = ((s i).rows.getD k noRow).turn) : Four t (upf s i s') := by
  refine ⟨ok_upf h.1 ho, ?_⟩
  have e : ∀ j k, (K (upf s i s') j k).turn = (K s j k).turn := fun j k => by
    rw [K_upf]
    split
    · rename_i q; rw [ht k, q]; rfl
    · rfl
  intro k hk
  rw [e]
  exact ⟨(h.2 k hk).1, fun j hj => by rw [e]; exact (h.2 k hk).2 j hj⟩
theorem comb_cases (me : Nat) (x r : Row) : (newer x r = false ∧ comb me x r = x) ∨ (newer x r = true ∧ r.node ≠ me ∧ comb me x r = r) ∨ (newer x r = true ∧ r.node = me ∧ r.says = 1 ∧ comb me x r = r) ∨ (newer x r = true ∧ r.node = me ∧ r.says ≠ 1 ∧ comb me x r = ⟨me, min (r.turn + 1) 1099511627776, 1⟩) := by
  unfold comb
  by_cases h : newer x r = true
  · rw [if_pos h]
    by_cases q : r.node = me
    · rw [if_pos q]
      by_cases p : r.says = 1
      · rw [if_pos p]; exact .inr (.inr (.inl ⟨h, q, p, rfl⟩))
      · rw [if_neg p]; exact .inr (.inr (.inr ⟨h, q, p, rfl⟩))
    · rw [if_neg q]; exact .inr (.inl ⟨h, q, rfl⟩)
  · rw [if_neg h]; exact .inl ⟨by simpa using h, rfl⟩
theorem newer_iff {x r : Row} : newer x r = true ↔ (x.turn < r.turn ∨ (x.turn = r.turn ∧ x.says < r.says)) := by
  unfold newer; rw [decide_eq_true_iff]
theorem merge_K {s : Nat → G} (h : ∀ i, i < 4 → Ok 4 i (s i)) {i j : Nat} (hi : i < 4) (hj : j < 4) {k : Nat} (hk : k < 4) (l : Nat) :
    K (upf s i (gmerge (s i) (s j).rows)) l k = if l = i then comb (i + 1) (K s i k) (K s j k) else K s l k := by
  rw [K_upf]
  split
  · obtain ⟨g1, -⟩ := gmerge_rmerge (s j).rows (s i)
    obtain ⟨m1, m2, m3⟩ := (h i hi).full.pre.merged (h j hj).full (s i).me
    rw [g1, m3 k, if_pos hk, (h i hi).me]
    rfl
  · rfl
/-- What node i makes of what node j says: of itself, and of the others. -/
theorem own_comb {t : Nat} {s : Nat → G} (h : Four t s) (ht : t + 1 ≤ 1099511627776) {i j : Nat} (hi : i < 4) (hj : j < 4) :
    (K s i i).turn ≤ (comb (i + 1) (K s i i) (K s j i)).turn ∧ (comb (i + 1) (K s i i) (K s j i)).turn ≤ t + 1 ∧ key (K s i i) ≤ key (comb (i + 1) (K s i i) (K s j i)) ∧ key (K s j i) ≤ key (comb (i + 1) (K s i i) (K s j i)) ∧ (key (K s j i) ≤ key (K s i i) → comb (i + 1) (K s i i) (K s j i) = K s i i) := by
  have o1 : (K s i i).says = 1 := (h.1 i hi).own
  have a1 := (h.2 i hi).1
  have a2 := (h.2 i hi).2 j hj
  have w3 : (K s j i).says ≤ 3 := (h.1 j hj).wf.says i
  have nd : (K s j i).node = i + 1 := (h.1 j hj).full.2 i hi
  obtain ⟨x, hx⟩ : ∃ x, x = K s i i := ⟨_, rfl⟩
  obtain ⟨r, hr⟩ : ∃ r, r = K s j i := ⟨_, rfl⟩
  rw [← hx] at o1 a1 a2 ⊢
  rw [← hr] at a2 w3 nd ⊢
  rcases comb_cases (i + 1) x r with ⟨c1, e⟩ | ⟨c1, c2, e⟩ | ⟨c1, c2, c3, e⟩ | ⟨c1, c2, c3, e⟩
  · have c : ¬ (x.turn < r.turn ∨ (x.turn = r.turn ∧ x.says < r.says)) := fun q => by rw [newer_iff.2 q] at c1; cases c1
    rw [e]
    unfold key
    refine ⟨by omega, by omega, by omega, by omega, fun _ => rfl⟩
  · exact absurd nd c2
  · have c := newer_iff.1 c1
    omega
  · have c := newer_iff.1 c1
    rw [e, Nat.min_eq_left (by omega)]
    unfold key
    refine ⟨by simp only; omega, by simp only; omega, by simp only; omega, by simp only; omega, fun q => by omega⟩
theorem other_comb {t : Nat} {s : Nat → G} (h : Four t s) {i j k : Nat} (hi : i < 4) (hj : j < 4) (hk : k < 4) (hki : k ≠ i) :
    (comb (i + 1) (K s i k) (K s j k) = K s i k ∨ comb (i + 1) (K s i k) (K s j k) = K s j k) ∧ key (K s i k) ≤ key (comb (i + 1) (K s i k) (K s j k)) ∧ key (K s j k) ≤ key (comb (i + 1) (K s i k) (K s j k)) := by
  have w2 : (K s i k).says ≤ 3 := (h.1 i hi).wf.says k
  have w3 : (K s j k).says ≤ 3 := (h.1 j hj).wf.says k
  have nd : (K s j k).node = k + 1 := (h.1 j hj).full.2 k hk
  obtain ⟨x, hx⟩ : ∃ x, x = K s i k := ⟨_, rfl⟩
  obtain ⟨r, hr⟩ : ∃ r, r = K s j k := ⟨_, rfl⟩
  rw [← hx] at w2 ⊢
  rw [← hr] at w3 nd ⊢
  rcases comb_cases (i + 1) x r with ⟨c1, e⟩ | ⟨c1, c2, e⟩ | ⟨c1, c2, c3, e⟩ | ⟨c1, c2, c3, e⟩
  · have c : ¬ (x.turn < r.turn ∨ (x.turn = r.turn ∧ x.says < r.says)) := fun q => by rw [newer_iff.2 q] at c1; cases c1
    rw [e]
    unfold key
    exact ⟨.inl rfl, by omega, by omega⟩
  · have c := newer_iff.1 c1
    rw [e]
    unfold key
    exact ⟨.inr rfl, by omega, by omega⟩
  · omega
  · omega
theorem Four.merge {t : Nat} {s : Nat → G} (h : Four t s) (ht : t + 1 ≤ 1099511627776) {i j : Nat} (hi : i < 4) (hj : j < 4) : Four (t + 1) (upf s i (gmerge (s i) (s j).rows)) := by
  refine ⟨ok_upf h.1 ((h.1 i hi).merge hi (by decide) (h.1 j hj).wf (h.1 j hj).full), fun k hk => ?_⟩
  have e := merge_K h.1 hi hj hk
  by_cases c : k = i
  · subst c
    obtain ⟨o1, o2, -⟩ := own_comb h ht hi hj
    rw [e, if_pos rfl]
    refine ⟨o2, fun l hl => ?_⟩
    rw [e]
    split
    · exact Nat.le_refl _
    · exact Nat.le_trans ((h.2 _ hi).2 l hl) o1
  · rw [e, if_neg c]
    refine ⟨Nat.le_trans (h.2 k hk).1 (by omega), fun l hl => ?_⟩
    rw [e]
    split
    · rcases (other_comb h hi hj hk c).1 with q | q
      · rw [q]; exact (h.2 k hk).2 i hi
      · rw [q]; exact (h.2 k hk).2 j hj
    · exact (h.2 k hk).2 l hl
/-- The state of the rounds: round r, node gi is hearing, of the first hi nodes it has heard. -/
structure RI (r gi hi : Nat) (s : Nat → G) : Prop where
  f : Four (200 + r * 16 + gi * 4 + hi) s
  a : ∀ g, g < 4 → (1 ≤ r ∨ g < gi) → ∀ j, j < 4 → key (K s j g) ≤ key (K s g g)
  a' : gi < 4 → ∀ h, h < hi → key (K s h gi) ≤ key (K s gi gi)
  c : ∀ g, g < 4 → (2 ≤ r ∨ (1 ≤ r ∧ g < gi)) → ∀ k, k < 4 → key (K s g k) = key (K s k k)
  c' : gi < 4 → 1 ≤ r → ∀ h, h < hi → key (K s gi h) = key (K s h h)
theorem RI.hear {r gi hi : Nat} {s : Nat → G} (h : RI r gi hi s) (hr : r ≤ 3) (hg : gi < 4) (hh : hi < 4) : RI r gi (hi + 1) (upf s gi (gmerge (s gi) (s hi).rows)) := by
  have ht : 200 + r * 16 + gi * 4 + hi + 1 ≤ 1099511627776 := by omega
  obtain ⟨o1, o2, o3, o4, o5⟩ := own_comb h.f ht hg hh
  have e := fun (k : Nat) (hk : k < 4) (l : Nat) => merge_K h.f.1 hg hh hk l
  have oc := fun (k : Nat) (hk : k < 4) (c : k ≠ gi) => other_comb h.f hg hh hk c
  have un : 1 ≤ r → comb (gi + 1) (K s gi gi) (K s hi gi) = K s gi gi := fun q => o5 (h.a gi hg (.inl q) hi hh)
  have own : 1 ≤ r → ∀ k, k < 4 → K (upf s gi (gmerge (s gi) (s hi).rows)) k k = K s k k := fun q k hk => by
    rw [e k hk]
    split
    · rename_i c; subst c; exact un q
    · rfl
  refine ⟨(h.f.merge ht hg hh).later (by omega), fun g hg4 hc j hj => ?_, fun _ l hl => ?_, fun g hg4 hc k hk => ?_, fun _ hr1 l hl => ?_⟩
  · rw [e g hg4, e g hg4]
    by_cases q : g = gi
    · subst q
      have hr1 : 1 ≤ r := by omega
      rw [if_pos rfl, un hr1]
      split
      · exact Nat.le_refl _
      · exact h.a _ hg4 (.inl hr1) j hj
    · rw [if_neg q]
      split
      · rcases (oc g hg4 q).1 with p | p
        · rw [p]; exact h.a g hg4 hc gi hg
        · rw [p]; exact h.a g hg4 hc hi hh
      · exact h.a g hg4 hc j hj
  · rw [e gi hg, e gi hg, if_pos rfl]
    split
    · exact Nat.le_refl _
    · by_cases q : l = hi
      · subst q; exact o4
      · exact Nat.le_trans (h.a' hg l (by omega)) o3
  · have hr1 : 1 ≤ r := by omega
    rw [own hr1 k hk, e k hk]
    split
    · rename_i q
      subst q
      by_cases p : k = g
      · subst p; rw [un hr1]
      · have i1 := h.c g hg4 hc k hk
        have i2 := h.a k hk (.inl hr1) hi hh
        have i3 := (oc k hk p).1
        have i4 := (oc k hk p).2.1
        rcases i3 with p3 | p3
        · rw [p3]; exact i1
        · rw [p3] at i4 ⊢; omega
    · exact h.c g hg4 hc k hk
  · have hl4 : l < 4 := by omega
    rw [own hr1 l hl4, e l hl4, if_pos rfl]
    by_cases p : l = gi
    · subst p; rw [un hr1]
    · have i2 := h.a l hl4 (.inl hr1) gi hg
      have i2' := h.a l hl4 (.inl hr1) hi hh
      have i3 := oc l hl4 p
      rcases i3.1 with q | q
      · by_cases ql : l = hi
        · subst ql
          have := i3.2.2
          rw [q] at this ⊢
          omega
        · rw [q]; exact h.c' hg hr1 l (by omega)
      · by_cases ql : l = hi
        · subst ql; rw [q]
        · have := h.c' hg hr1 l (by omega)
          have := i3.2.1
          rw [q] at this ⊢
          omega
theorem RI.next {r gi : Nat} {s : Nat → G} (h : RI r gi 4 s) (hg : gi < 4) : RI r (gi + 1) 0 s := by
  refine ⟨h.f.later (by omega), fun g hg4 hc j hj => ?_, fun _ l hl => by omega, fun g hg4 hc k hk => ?_, fun _ _ l hl => by omega⟩
  · by_cases q : g = gi
    · subst q; exact h.a' hg j hj
    · exact h.a g hg4 (by omega) j hj
  · by_cases q : 2 ≤ r ∨ g < gi
    · exact h.c g hg4 (by omega) k hk
    · have : g = gi := by omega
      subst this
      exact h.c' hg (by omega) k hk
theorem RI.turn {r : Nat} {s : Nat → G} (h : RI r 4 0 s) : RI (r + 1) 0 0 s := by
  refine ⟨h.f.later (by omega), fun g hg4 _ j hj => h.a g hg4 (.inr hg4) j hj, fun _ l hl => by omega, fun g hg4 hc k hk => h.c g hg4 (by omega) k hk, fun _ _ l hl => by omega⟩
theorem RI.start {t : Nat} {s : Nat → G} (h : Four t s) (ht : t ≤ 200) : RI 0 0 0 s :=
  ⟨h.later (by omega), fun g _ hc => by omega, fun _ l hl => by omega, fun g _ hc => by omega, fun _ _ l hl => by omega⟩
/-- In the end all say the same of all, and that they live. -/
theorem RI.done {s : Nat → G} (h : RI 3 0 0 s) {g : Nat} (hg : g < 4) : (s g).rows = (s 0).rows ∧ ∀ i, i < (s g).rows.length → ((s g).rows.getD i noRow).says = 1 := by
  have e : ∀ g, g < 4 → ∀ k, k < 4 → K s g k = K s k k := fun g hg k hk =>
    row_ext (by rw [show (K s g k).node = k + 1 from (h.f.1 g hg).full.2 k hk, show (K s k k).node = k + 1 from (h.f.1 k hk).full.2 k hk]) (h.c g hg (.inl (by decide)) k hk) ((h.f.1 g hg).wf.says k) ((h.f.1 k hk).wf.says k)
  have l1 := (h.f.1 g hg).full.1
  have l0 := (h.f.1 0 (by decide)).full.1
  refine ⟨List.ext_getElem (by rw [l1, l0]) (fun i i1 i2 => ?_), fun i hi => ?_⟩
  · have hi4 : i < 4 := by omega
    have q : K s g i = K s 0 i := (e g hg i hi4).trans (e 0 (by decide) i hi4).symm
    unfold K at q
    rw [List.getD_eq_getElem?_getD, List.getD_eq_getElem?_getD, List.getElem?_eq_getElem i1, List.getElem?_eq_getElem i2] at q
    exact q
  · have hi4 : i < 4 := by omega
    have q := e g hg i hi4
    unfold K at q
    rw [q]
    exact (h.f.1 i hi4).own

set_option maxHeartbeats 16000000 in
set_option maxRecDepth 100000 in
theorem agree_walk (a : Option Addr) (len cap : Nat) (xs : List Int) (w : World) (hx : IntRow w a xs) (hl : xs.length = len) (hlc : len ≤ cap) (hc : cap ≤ 9223372036854775807) :
    Calls Try.prog 12 #[.slice a len cap] w fun e w' => e = .returned (.bool true) ∧ Upd [] w w' := by
  have HX := hid hx
  have HL := hid hl
  have HLC := hid hlc
  have HC := hid hc
  clear hx hl hlc hc
  go_enter Try.func12, Try.ntmps12
  go_wp2_with fail
  refine (begun_true w).mono ?_
  rintro e w1 ⟨rfl, hu⟩
  have U1 := hid hu
  clear hu
  have GA := hid (gossips_any 4 3 w1 (by decide) (by decide) (by omega) (by omega))
  go_wp2_with fail
  refine GA.out.mono ?_
  rintro e w2 ⟨v, g, s, rfl, ho, hn, hb, hu⟩
  obtain ⟨q, k, e, -⟩ := ptr_at ho (i := 0) (by decide)
  subst e
  obtain ⟨B, hB⟩ : ∃ B, B = w1.heap.size := ⟨_, rfl⟩
  rw [← hB] at ho hn
  have U2 := hid (U1.out.trans hu (fun x hx => by cases hx))
  have hBw2 : B ≤ w2.heap.size := by rw [hB]; exact hu.size
  have HBW := hid hBw2
  have HWB := hid (show w.heap.size ≤ B by rw [hB]; exact U1.out.size)
  have CH := hid (chatter_any (by decide) (by decide) (fun t s => (∀ i, i < 4 → Ok 4 i (s i)) ∧ (t ≤ 1000 → Auth t s)) (fun _ _ h => h.1) (fun t s h => ⟨h.1, fun q => (Four.later (t := t) ⟨h.1, h.2 (by omega)⟩ (by omega)).2⟩)
    (fun t s i k h hi hk hki _ => ⟨ok_upf h.1 ((h.1 _ hi).dbt hk hki), fun q => ((Four.same (t := t) ⟨h.1, h.2 (by omega)⟩ ((h.1 _ hi).dbt hk hki) (fun j => by
      show ((sayAt (s i).rows k 2).getD j noRow).turn = _
      rw [sayAt_get _ _ _ _ (by rw [(h.1 _ hi).full.1]; exact hk)]
      split
      · rename_i e; rw [e]
      · rfl)).later (by omega)).2⟩)
    (fun t s i h hi => ⟨ok_upf h.1 (h.1 _ hi).tck.1, fun q => ((Four.same (t := t) ⟨h.1, h.2 (by omega)⟩ (h.1 _ hi).tck.1 (fun j => ((h.1 _ hi).tck.2 j).1)).later (by omega)).2⟩)
    (fun t s i j h hi hj => ⟨ok_upf h.1 ((h.1 _ hi).merge hi (by decide) (h.1 _ hj).wf (h.1 _ hj).full), fun q => (Four.merge (t := t) ⟨h.1, h.2 (by omega)⟩ (by omega) hi hj).2⟩)
    (t0 := 0) hn ⟨fun i hi => Ok.begun (hb i hi) hi (by decide) (by decide) (by decide), fun _ i hi => by
      have e : ∀ j, j < 4 → K s j i = ⟨i + 1, 0, 1⟩ := fun j hj => by
        unfold K
        rw [(hb j hj).2.2.1, rall_get 4 i hi]
      rw [e i hi]
      exact ⟨Nat.zero_le _, fun j hj => by rw [e j hj]; exact Nat.le_refl _⟩⟩ hBw2 (q := q) (k := k) (by simp [Value.ownBlock]) ho (a := a) (len := len) (cap := cap) (xs := xs) (fun wz f => HX.out.upd (f.upd_le HWB.out U2.out)) HL.out HLC.out HC.out)
  have HO := hid ho
  clear ho hn hb hu GA hB hBw2
  go_wp2_with fail
  refine CH.out.mono ?_
  rintro e w3 ⟨rfl, s0, hn3, ok3, f3⟩
  have N3 := hid hn3
  have R0 := hid (RI.start (t := 0 + min len 150) (s := s0) ⟨ok3.1, ok3.2 (by omega)⟩ (by omega))
  have F3 := hid f3
  have O3 := hid (f3.own HO.out (fun x hx => by simp [Value.ownBlock] at hx; subst hx; simp [Value.ownBlock]))
  have B3 := hid (show B ≤ w3.heap.size by have := f3.size; have := HBW.out; omega)
  clear hn3 ok3 f3 CH HO
  go_wp2_with fail
  go_loopg [25] 3 (fun d v25 wr => ∃ (r : Nat) (s : Nat → G), v25 = .int .i64 (r : Int) ∧ r ≤ 3 ∧ Hid (r + d = 3) ∧ Hid (Net B [q] 4 wr g s) ∧ Hid (RI r 0 0 s) ∧ Hid (Far B [q] w3 wr))
  case atStart => exact ⟨0, s0, rfl, by omega, hid (by omega), N3, R0, hid (Far.refl _ _ _)⟩
  case round =>
    clear N3 R0
    obtain ⟨r, s, rfl, hr, Hd, HN, HR, HF⟩ := hrel
    by_cases hr3 : r < 3
    · have hr' : (r : Int) < 3 := by omega
      go_wp2_with fail
      go_loopg [29] 4 (fun d v29 wr => ∃ (gi : Nat) (s : Nat → G), v29 = .int .i64 (gi : Int) ∧ gi ≤ 4 ∧ Hid (gi + d = 4) ∧ Hid (Net B [q] 4 wr g s) ∧ Hid (RI r gi 0 s) ∧ Hid (Far B [q] w3 wr))
      case atStart => exact ⟨0, s, rfl, by omega, hid (by omega), HN, HR, HF⟩
      case round =>
        clear HN HR HF
        obtain ⟨gi, s, rfl, hg, Hg, HN, HR, HF⟩ := hrel
        by_cases hg4 : gi < 4
        · have hg' : (gi : Int) < 4 := by omega
          obtain ⟨q', k', e, c1⟩ := ptr_at (HF.out.own O3.out (fun x hx => by simp [Value.ownBlock] at hx; simp [hx])) hg4
          cases e
          go_wp2_with fail
          go_loopg [35] 4 (fun d v35 wr => ∃ (hi : Nat) (s : Nat → G), v35 = .int .i64 (hi : Int) ∧ hi ≤ 4 ∧ Hid (hi + d = 4) ∧ Hid (Net B [q] 4 wr g s) ∧ Hid (RI r gi hi s) ∧ Hid (Far B [q] w3 wr))
          case atStart => exact ⟨0, s, rfl, by omega, hid (by omega), HN, HR, HF⟩
          case round =>
            clear HN HR HF c1
            obtain ⟨hi, s, rfl, hh, Hh, HN, HR, HF⟩ := hrel
            by_cases hh4 : hi < 4
            · have hh' : (hi : Int) < 4 := by omega
              obtain ⟨q', k', e, c1⟩ := ptr_at (HF.out.own O3.out (fun x hx => by simp [Value.ownBlock] at hx; simp [hx])) hh4
              cases e
              have HBR := hid (show B ≤ wr.heap.size by have := HF.out.size; have := B3.out; omega)
              have WH := hid (HR.out.f.1 hi hh4)
              have WG := hid (HR.out.f.1 gi hg4)
              go_wp2_with fail
              refine (net_state HN.out hh4 WH.out.wf).mono ?_
              rintro e w6 ⟨r6, k6', rfl, ho6, hn6, hu6⟩
              have A6 := hid (rowAt_own ho6)
              have N6 := hid hn6
              have F6 := hid (show Far B [q] wr w6 from Far.of_nil hu6)
              clear ho6 hn6 hu6
              go_wp2_with fail
              refine (net_merge N6.out hg4 (by have := F6.out.size; have := HBR.out; omega) WG.out.wf (by rw [WG.out.me]; omega) (some ⟨r6, 0, none⟩) (s hi).rows (s hi).rows.length k6' rfl WH.out.wf.told A6.out (fun x o e => by cases e; simp)).mono ?_
              rintro e w7 ⟨rfl, hn7, hf7⟩
              have N7 := hid (hn7.drop (Z' := [q]) (fun z hz => by simp at hz; simp [hz]))
              have F7 := hid (F6.out.trans (hf7.mono (Z' := [q]) (fun z hz => by simp at hz; simp [hz])))
              have R7 := hid (HR.out.hear hr hg4 hh4)
              clear hn7 hf7
              go_wp2_with fail
              go_roundg (4 - (hi + 1))
              case measure => have := Hh.out; omega
              case rel => exact ⟨hi + 1, _, by go_num, by omega, hid (by omega), N7, R7, hid (HF.out.trans F7.out)⟩
            · have hnh : ¬ (hi : Int) < 4 := by omega
              have eh : hi = 4 := by omega
              subst eh
              go_wp2_with fail
              go_roundg (4 - (gi + 1))
              case measure => have := Hg.out; omega
              case rel => exact ⟨gi + 1, s, by go_num, by omega, hid (by omega), HN, hid (HR.out.next hg4), HF⟩
        · have hng : ¬ (gi : Int) < 4 := by omega
          have eg : gi = 4 := by omega
          subst eg
          go_wp2_with fail
          go_roundg (3 - (r + 1))
          case measure => have := Hd.out; omega
          case rel => exact ⟨r + 1, s, by go_num, by omega, hid (by omega), HN, hid (HR.out.turn), HF⟩
    · have hnr : ¬ (r : Int) < 3 := by omega
      have er : r = 3 := by omega
      subst er
      go_wp2_with fail
      go_loopg [49] 4 (fun d v49 wz => ∃ (j : Nat), v49 = .int .i64 (j : Int) ∧ j ≤ 4 ∧ Hid (j + d = 4) ∧ Hid (Upd [] wr wz))
      case atStart => exact ⟨0, rfl, by omega, hid (by omega), hid (Upd.refl _ _)⟩
      case round =>
        obtain ⟨j, rfl, hj, Hj, HU⟩ := hrel
        have FW := hid (HF.out.trans (Far.of_nil HU.out))
        by_cases hj4 : j < 4
        · have hj' : (j : Int) < 4 := by omega
          obtain ⟨q', k', e, c1⟩ := ptr_at (FW.out.own O3.out (fun x hx => by simp [Value.ownBlock] at hx; simp [hx])) hj4
          cases e
          obtain ⟨q', k', e, c2⟩ := ptr_at (FW.out.own O3.out (fun x hx => by simp [Value.ownBlock] at hx; simp [hx])) (i := 0) (by decide)
          cases e
          go_upto_region 22 with (fail)
          have KEEP := hid (show ∀ wz, Upd [] wr wz → wz.cell? ⟨q, 0, none⟩ = some (.pointer (some ⟨g 0, 0, none⟩)) from fun wz u => u.cell c2 (by simp))
          have DN := hid (fun j (hj : j < 4) => HR.out.done hj)
          have WF' := hid (fun j (hj : j < 4) => (HR.out.f.1 j hj).wf)
          have NX := hid (HN.out.new HU.out)
          clear c1 c2
          refine J.J_begin (fun wz => wz.cell? ⟨q, 0, none⟩ = some (.pointer (some ⟨g 0, 0, none⟩))) 12 (by kernel_rfl) ⟨by kernel_rfl, by kernel_rfl, by kernel_rfl⟩ (KEEP.out _ ((Upd.refl [] wr).drew)) (fun LAST HS => ?_)
          refine J.J_take (i := 0) (v := ?_) LAST (by rfl) (by decide) (by kernel_rfl) (by kernel_rfl) (by intro _ _ _ h; exact h) HS (Or.inl ⟨by rfl, ?_⟩) ?_
          rotate_left
          · intro w hSw; (try dsimp only at hSw); go_simp; try with_reducible rfl
          try simp only [Act.put, List.setIfInBounds_toArray, List.set_cons_zero, List.set_cons_succ]
          refine J.J_take (i := 2) (v := ?_) LAST (by rfl) (by decide) (by kernel_rfl) (by kernel_rfl) (by intro _ _ _ h; exact h) HS (Or.inl ⟨by rfl, ?_⟩) ?_
          rotate_left
          · intro w hSw; (try dsimp only at hSw); go_simp; try with_reducible rfl
          try simp only [Act.put, List.setIfInBounds_toArray, List.set_cons_zero, List.set_cons_succ]
          refine J.J_take (i := 3) (v := ?_) LAST (by rfl) (by decide) (by kernel_rfl) (by kernel_rfl) (by intro _ _ _ h; exact h) HS (Or.inl ⟨by rfl, ?_⟩) ?_
          rotate_left
          · intro w hSw; (try dsimp only at hSw); go_simp; try with_reducible rfl
          try simp only [Act.put, List.setIfInBounds_toArray, List.set_cons_zero, List.set_cons_succ]
          refine J.J_take (i := 4) (v := ?_) LAST (by rfl) (by decide) (by kernel_rfl) (by kernel_rfl) (by intro _ _ _ h; exact h) HS (Or.inl ⟨by rfl, ?_⟩) ?_
          rotate_left
          · intro w hSw; (try dsimp only at hSw); go_simp; try with_reducible rfl
          try simp only [Act.put, List.setIfInBounds_toArray, List.set_cons_zero, List.set_cons_succ]
          refine J.J_one (i := 1) (by rfl) (by decide) (by kernel_rfl) (fun KK hK => ?_)
          go_simp
          refine (net_state (NX.out.new ((Upd.refl [] wr).drew)) hj4 (WF'.out j hj4)).mono ?_
          rintro e w6 ⟨r6, k6, rfl, ho6, -, hu6⟩
          have A6 := hid (rowAt_own ho6)
          have V6 := hid (((Upd.refl [] wr).drew).trans hu6 (fun x hx => by cases hx))
          clear ho6 hu6
          go_simp
          refine hK.out _ _ (KEEP.out _ V6.out) ?_
          clear hK KK
          try simp only [List.setIfInBounds_toArray]
          refine J.J_one (i := 5) (by rfl) (by decide) (by kernel_rfl) (fun KK hK => ?_)
          go_simp
          refine (net_state (NX.out.new V6.out) (i := 0) (by decide) (WF'.out 0 (by decide))).mono ?_
          rintro e w8 ⟨r8, k8, rfl, ho8, -, hu8⟩
          have A8 := hid (rowAt_own ho8)
          have A68 := hid (A6.out.upd hu8 (fun _ _ _ h => by cases h))
          have V8 := hid (V6.out.trans hu8 (fun x hx => by cases hx))
          clear ho8 hu8
          go_simp
          refine hK.out _ _ (KEEP.out _ V8.out) ?_
          clear hK KK
          try simp only [List.setIfInBounds_toArray]
          refine J.J_one (i := 6) (by rfl) (by decide) (by kernel_rfl) (fun KK hK => ?_)
          go_simp
          refine (eq_rows (some ⟨r6, 0, none⟩) (some ⟨r8, 0, none⟩) (s j).rows (s 0).rows (s j).rows.length (s 0).rows.length k6 k8 rfl rfl A68.out A8.out (by have := (WF'.out j hj4).len; omega) (by have := (WF'.out 0 (by decide)).len; omega)).mono ?_
          rintro e w9 ⟨rfl, hu9⟩
          have E9 := hid (show decide ((s j).rows = (s 0).rows) = true by rw [decide_eq_true_iff]; exact (DN.out j hj4).1)
          rw [E9.out]
          have V9 := hid (V8.out.trans hu9 (fun x hx => by cases hx))
          clear hu9
          go_simp
          have HS9 := KEEP.out _ V9.out
          refine hK.out _ _ HS9 ?_
          clear hK KK HS
          try simp only [List.setIfInBounds_toArray]
          refine J.J_take (i := 7) (v := ?_) LAST (by rfl) (by decide) (by kernel_rfl) (by kernel_rfl) (by intro _ _ _ h; exact h) HS9 (Or.inl ⟨by rfl, ?_⟩) ?_
          rotate_left
          · intro w hSw; (try dsimp only at hSw); go_simp; try with_reducible rfl
          try simp only [Act.put, List.setIfInBounds_toArray, List.set_cons_zero, List.set_cons_succ]
          refine J.J_take (i := 8) (v := ?_) LAST (by rfl) (by decide) (by kernel_rfl) (by kernel_rfl) (by intro _ _ _ h; exact h) HS9 (Or.inl ⟨by rfl, ?_⟩) ?_
          rotate_left
          · intro w hSw; (try dsimp only at hSw); go_simp; try with_reducible rfl
          try simp only [Act.put, List.setIfInBounds_toArray, List.set_cons_zero, List.set_cons_succ]
          refine J.J_take (i := 9) (v := ?_) LAST (by rfl) (by decide) (by kernel_rfl) (by kernel_rfl) (by intro _ _ _ h; exact h) HS9 (Or.inl ⟨by rfl, ?_⟩) ?_
          rotate_left
          · intro w hSw; (try dsimp only at hSw); go_simp; try with_reducible rfl
          try simp only [Act.put, List.setIfInBounds_toArray, List.set_cons_zero, List.set_cons_succ]
          refine J.J_one (i := 10) (by rfl) (by decide) (by kernel_rfl) (fun KK hK => ?_)
          go_simp
          refine (net_state (NX.out.new V9.out) hj4 (WF'.out j hj4)).mono ?_
          rintro e wa ⟨ra, ka, rfl, hoa, -, hua⟩
          have Aa := hid (rowAt_own hoa)
          have Va := hid (V9.out.trans hua (fun x hx => by cases hx))
          clear hoa hua
          go_simp
          refine hK.out _ _ (KEEP.out _ Va.out) ?_
          clear hK KK HS9
          try simp only [List.setIfInBounds_toArray]
          refine J.J_one (i := 11) (by rfl) (by decide) (by kernel_rfl) (fun KK hK => ?_)
          go_simp
          refine (contains_none (some ⟨ra, 0, none⟩) (s j).rows (s j).rows.length ka rfl Aa.out (by have := (WF'.out j hj4).len; omega) (DN.out j hj4).2).mono ?_
          rintro e wb ⟨rfl, hub⟩
          have Vb := hid (Va.out.trans hub (fun x hx => by cases hx))
          clear hub
          go_simp
          refine hK.out _ _ (KEEP.out _ Vb.out) ?_
          clear hK KK
          try simp only [List.setIfInBounds_toArray]
          refine J.J_last (by rfl) (by kernel_rfl) (by kernel_rfl) ?_
          go_simp
          go_wp2_with fail
          go_roundg (4 - (j + 1))
          case measure => have := Hj.out; omega
          case rel => exact ⟨j + 1, by go_num, by omega, hid (by omega), hid (HU.out.trans Vb.out (fun x hx => by cases hx))⟩
        · have hnj : ¬ (j : Int) < 4 := by omega
          go_wp2_with fail
          go_ret
          exact ⟨rfl, (F3.out.trans FW.out).upd_le HWB.out U2.out⟩
end Go.Proofs.Ytgkjkgooonicbaa.Gs
