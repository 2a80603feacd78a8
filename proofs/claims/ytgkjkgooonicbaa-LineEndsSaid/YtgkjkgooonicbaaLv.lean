/- After any losses: what a few delivered packets do (plain). -/
import Derived.Test.YtgkjkgooonicbaaLx
namespace Go.Proofs.Ytgkjkgooonicbaa.Lm

/-- An end that has come to its turn: what was read is got, all is to be told anew. -/
def E.ready (x : E) : E := etick (egot x)
theorem ready_same (x : E) : x.ready.base = x.base ∧ x.ready.kept = x.kept ∧ x.ready.want = x.want ∧ x.ready.read = [] ∧ x.ready.told = 0 ∧ (x.owe = true → x.ready.owe = true) ∧ x.ready.window = x.window := by
  refine ⟨rfl, rfl, rfl, rfl, rfl, fun h => ?_, rfl⟩
  show (x.owe || _) = true
  rw [h]; rfl
theorem come_mono (e : E) (p : Pk) : e.want ≤ (e.come p).want ∧ (e.owe = true → (e.come p).owe = true) ∧ (p.has = true → (e.come p).owe = true) ∧ (e.come p).base = (e.acked p).base := by
  obtain ⟨s1, s2, s3, s4⟩ := E.acked_same e p
  unfold E.come
  by_cases h : p.has = true
  · rw [if_pos h]
    by_cases c : p.seq = e.want ∧ e.read.length < e.window
    · rw [if_pos c]; exact ⟨Nat.le_succ _, fun _ => rfl, fun _ => rfl, rfl⟩
    · rw [if_neg c]; exact ⟨by show e.want ≤ (e.acked p).want; omega, fun _ => rfl, fun _ => rfl, rfl⟩
  · rw [if_neg h]; exact ⟨by omega, fun q => by rw [s4]; exact q, fun q => absurd q h, rfl⟩
theorem fold_mono : ∀ (l : List Pk) (e : E), e.want ≤ (l.foldl E.come e).want ∧ (e.owe = true → (l.foldl E.come e).owe = true)
  | [], _ => ⟨Nat.le_refl _, fun h => h⟩
  | p :: l, e => by
    obtain ⟨a1, a2, -, -⟩ := come_mono e p
    obtain ⟨b1, b2⟩ := fold_mono l (e.come p)
    exact ⟨Nat.le_trans a1 b1, fun h => b2 (a2 h)⟩
section
variable {x y : E} {A C G H : List (List Nat)} {wx wy : List Pk}
theorem Inv.wayed (h : Inv x y A C G H wx wy) {wx' wy' : List Pk} (h1 : ∀ p ∈ wx', p ∈ wx) (h2 : ∀ p ∈ wy', p ∈ wy) : Inv x y A C G H wx' wy' :=
  ⟨⟨h.xy.len, h.xy.kept, h.xy.bw, h.xy.wa, h.xy.got, h.xy.told, fun p hp => h.xy.pk p (h2 p hp)⟩, ⟨h.yx.len, h.yx.kept, h.yx.bw, h.yx.wa, h.yx.got, h.yx.told, fun p hp => h.yx.pk p (h1 p hp)⟩, h.fx, h.fy, h.small, h.small2⟩
theorem Inv.fold (wy : List Pk) : ∀ (l : List Pk) {y : E}, Inv x y A C G H wx wy → (∀ p ∈ l, p ∈ wy) → Inv x (l.foldl E.come y) A C G H wx wy
  | [], _, h, _ => h
  | p :: l, _, h, hl => Inv.fold wy l (h.swap.come (hl p (by simp))).swap (fun q hq => hl q (by simp [hq]))
/-- A packet's answer puts the other end in step. -/
theorem Inv.step_base (h : Inv x y A C G H wx wy) {p : Pk} (ha : p.ack = x.want) : (y.come p).base = x.want := by
  rw [(come_mono y p).2.2.2]
  have h1 := h.yx.bw
  have h2 := h.yx.wa
  have h3 := h.yx.len
  unfold E.acked
  by_cases c : y.base < p.ack ∧ p.ack ≤ y.base + y.kept.length
  · rw [if_pos c]; exact ha
  · rw [if_neg c, if_pos (by omega)]; show y.base = x.want; omega
theorem fold_base : ∀ (l : List Pk) {y : E}, Inv x y A C G H wx wy → (∀ p ∈ l, p ∈ wy ∧ p.ack = x.want) → y.base = x.want → (l.foldl E.come y).base = x.want
  | [], _, _, _, hb => hb
  | p :: l, _, h, hl, _ => fold_base l (h.swap.come (hl p (by simp)).1).swap (fun q hq => hl q (by simp [hq])) (h.step_base (hl p (by simp)).2)
theorem out_ack (e : E) : ∀ p ∈ e.out, p.ack = e.want := fun p hp => by
  unfold E.out at hp
  split at hp
  · obtain ⟨j, -, rfl⟩ := says_mem e _ _ p hp; rfl
  · split at hp
    · simp at hp; subst hp; rfl
    · cases hp
theorem says_cons (e : E) (a : Nat) : ∀ n, 0 < n → ∃ l, e.says a n = e.say a :: l
  | 1, _ => ⟨[], by simp [E.says]⟩
  | n + 2, _ => by
    obtain ⟨l, hl⟩ := says_cons e a (n + 1) (by omega)
    exact ⟨l ++ [e.say (a + (n + 1))], by show e.says a (n + 1) ++ _ = _; rw [hl]; rfl⟩
theorem says_has (e : E) (a : Nat) (n : Nat) : ∀ p ∈ e.says a n, p.has = true := fun p hp => by
  obtain ⟨j, -, rfl⟩ := says_mem e a n p hp; rfl
/-- One end's turn: it gets, ticks, tells; all comes to the other one. -/
theorem turn (h : Inv x y A C G H wx wy) : ∃ G', G' = G ++ x.read ∧ Inv x.ready.outE (x.ready.out.foldl E.come y) A C G' H [] [] ∧
    x.ready.outE.base = x.base ∧ x.ready.outE.want = x.want ∧ x.ready.outE.kept = x.kept ∧ x.ready.outE.read = [] ∧ y.want ≤ (x.ready.out.foldl E.come y).want ∧
    (x.kept ≠ [] → (x.ready.out.foldl E.come y).owe = true) ∧ ((x.kept ≠ [] ∨ x.owe = true) → (x.ready.out.foldl E.come y).base = x.want) ∧
    (x.kept ≠ [] → y.want = x.base → y.read = [] → y.want + 1 ≤ (x.ready.out.foldl E.come y).want) := by
  obtain ⟨r1, r2, r3, r4, r5, r6, r7⟩ := ready_same x
  have h1 : Inv x.ready y A C (G ++ x.read) H wx wy := h.gotten.tick
  have h2 := h1.said
  have hmem : ∀ p ∈ x.ready.out, p ∈ wy ++ x.ready.out := fun p hp => List.mem_append_right _ hp
  have h3 := Inv.fold _ x.ready.out h2 hmem
  have hack : ∀ p ∈ x.ready.out, p.ack = x.ready.outE.want := out_ack x.ready
  have hout : x.kept ≠ [] → ∃ l, x.ready.out = x.ready.say 0 :: l := fun hk => by
    have hk0 : 0 < x.kept.length := List.length_pos_iff.2 hk
    have hlim : 1 ≤ x.ready.limit := by
      show 1 ≤ (if x.kept.length = 0 then x.limit else max x.limit 1)
      rw [if_neg (by omega)]; exact Nat.le_max_right _ _
    have htop : 0 < x.ready.top := by unfold E.top; rw [r2]; omega
    unfold E.out
    rw [r5, if_pos htop]
    exact says_cons x.ready 0 _ (by omega)
  refine ⟨_, rfl, h3.wayed (fun p hp => by cases hp) (fun p hp => by cases hp), rfl, rfl, rfl, rfl, (fold_mono _ y).1, fun hk => ?_, fun hk => ?_, fun hk hb hr => ?_⟩
  · obtain ⟨l, hl⟩ := hout hk
    rw [hl]
    exact (fold_mono l _).2 ((come_mono y _).2.2.1 rfl)
  · have hne : ∃ p l, x.ready.out = p :: l := by
      by_cases q : x.kept = []
      · rcases hk with hk | hk
        · exact absurd q hk
        · have ht : ¬ x.ready.told < x.ready.top := by unfold E.top; rw [r2, q, r5]; simp
          unfold E.out
          rw [if_neg ht, if_pos (r6 hk)]
          exact ⟨_, [], rfl⟩
      · obtain ⟨l, hl⟩ := hout q; exact ⟨_, l, hl⟩
    obtain ⟨p, l, hl⟩ := hne
    have hp : p ∈ x.ready.out := by rw [hl]; simp
    have hq : ∀ q ∈ l, q ∈ x.ready.out := fun q hq => by rw [hl]; simp [hq]
    have k1 : (y.come p).base = x.want := h2.step_base (hack p hp)
    have k2 := fold_base (x := x.ready.outE) l (h2.swap.come (hmem p hp)).swap (fun q hq2 => ⟨hmem q (hq q hq2), hack q (hq q hq2)⟩) k1
    rw [hl]
    exact k2
  · obtain ⟨l, hl⟩ := hout hk
    rw [hl]
    have k1 : (y.come (x.ready.say 0)).want = y.want + 1 := by
      unfold E.come
      rw [if_pos (show (x.ready.say 0).has = true from rfl), if_pos ⟨show x.base + 0 = y.want by omega, by rw [hr]; exact h.fy.win1⟩]
    have := (fold_mono l (y.come (x.ready.say 0))).1
    rw [k1] at this
    exact this
end
/-- The state ahead of round k (from the second one on). -/
structure Rnd (x y : E) (A C G H : List (List Nat)) (k : Nat) : Prop where
  inv : Inv x y A C G H [] []
  sync : x.base = y.want
  clear : y.read = []
  owe : y.kept ≠ [] → x.owe = true
  mx : A.length - y.want ≤ 17 - k
  my : C.length - x.want ≤ 17 - k
  ky : y.kept.length ≤ 18 - k
theorem acked_bmono (e : E) (p : Pk) : e.base ≤ (e.acked p).base := by
  unfold E.acked
  by_cases c : e.base < p.ack ∧ p.ack ≤ e.base + e.kept.length
  · rw [if_pos c]; exact Nat.le_of_lt c.1
  · rw [if_neg c]; split <;> exact Nat.le_refl _
theorem fold_bmono : ∀ (l : List Pk) (e : E), e.base ≤ (l.foldl E.come e).base
  | [], _ => Nat.le_refl _
  | p :: l, e => Nat.le_trans (by rw [(come_mono e p).2.2.2]; exact acked_bmono e p) (fold_bmono l (e.come p))
theorem kept_nil {s t : E} {A G : List (List Nat)} {way : List Pk} (h : Dir s t A G way) : s.kept = [] ↔ s.base = A.length := by
  have := h.len
  constructor
  · intro q; rw [q] at this; simpa using this
  · intro q; exact List.eq_nil_of_length_eq_zero (by omega)
section
variable {x y : E} {A C G H : List (List Nat)} {wx wy : List Pk}
/-- The ends after both turns. -/
def X2 (x y : E) : E := (x.ready.out.foldl E.come y).ready.out.foldl E.come x.ready.outE
def Y2 (x y : E) : E := (x.ready.out.foldl E.come y).ready.outE
theorem round_first (h : Inv x y A C G H wx wy) : Rnd (X2 x y) (Y2 x y) A C (G ++ x.read) (H ++ (x.ready.out.foldl E.come y).read) 1 := by
  obtain ⟨_, rfl, i1, a1, a2, a3, a4, a5, a6, a7, a8⟩ := turn h
  obtain ⟨_, rfl, i2, b1, b2, b3, b4, b5, b6, b7, b8⟩ := turn i1.swap
  have i3 := i2.swap
  have e1 := i3.xy.len
  have e2 := i3.xy.bw
  have e3 := i3.xy.wa
  have e4 := i3.yx.len
  have e5 := i3.yx.bw
  have e6 := i3.fx
  have e7 := i3.fy
  refine ⟨i3, ?_, b4, fun q => b6 (by rw [← b3]; exact q), ?_, ?_, ?_⟩
  · by_cases q : (x.ready.out.foldl E.come y).kept ≠ [] ∨ (x.ready.out.foldl E.come y).owe = true
    · exact (b7 q).trans b2.symm
    · have q2 : x.kept = [] := by
        by_cases z : x.kept = []
        · exact z
        · exact absurd (.inr (a6 z)) q
      have q3 : x.ready.outE.base = A.length := by rw [a1]; exact (kept_nil h.xy).1 q2
      have q4 := fold_bmono (x.ready.out.foldl E.come y).ready.out x.ready.outE
      show (X2 x y).base = (Y2 x y).want
      have q5 : x.ready.outE.base ≤ (X2 x y).base := q4
      have q6 : (X2 x y).base ≤ (Y2 x y).want := e2
      have q7 : (Y2 x y).want ≤ A.length := e3
      omega
  · have z1 := e6.kept
    have z2 := e6.win
    have q6 : (X2 x y).base ≤ (Y2 x y).want := e2
    show A.length - (Y2 x y).want ≤ 16
    have q8 : (X2 x y).base + (X2 x y).kept.length = A.length := e1
    have q9 : (X2 x y).kept.length ≤ 16 := Nat.le_trans z1 z2
    omega
  · have z1 := e7.kept
    have z2 := e7.win
    show C.length - (X2 x y).want ≤ 16
    have q6 : (Y2 x y).base ≤ (X2 x y).want := e5
    have q8 : (Y2 x y).base + (Y2 x y).kept.length = C.length := e4
    have q9 : (Y2 x y).kept.length ≤ 16 := Nat.le_trans z1 z2
    omega
  · show (Y2 x y).kept.length ≤ 17
    have q9 : (Y2 x y).kept.length ≤ 16 := Nat.le_trans e7.kept e7.win
    omega
theorem round_next {k : Nat} (r : Rnd x y A C G H k) : Rnd (X2 x y) (Y2 x y) A C (G ++ x.read) (H ++ (x.ready.out.foldl E.come y).read) (k + 1) := by
  have h := r.inv
  obtain ⟨_, rfl, i1, a1, a2, a3, a4, a5, a6, a7, a8⟩ := turn h
  obtain ⟨_, rfl, i2, b1, b2, b3, b4, b5, b6, b7, b8⟩ := turn i1.swap
  obtain ⟨Y1, hY⟩ : ∃ Y1, Y1 = x.ready.out.foldl E.come y := ⟨_, rfl⟩
  have f := round_first h
  have hy : y.kept = [] → Y1.kept = [] := fun q => by
    rw [hY]
    have q1 := (kept_nil h.yx).1 q
    have q2 := fold_bmono x.ready.out y
    have q3 := i1.yx.bw
    have q4 := i1.yx.wa
    exact (kept_nil i1.yx).2 (by omega)
  have hb : Y1.kept ≠ [] → Y1.base = x.want := fun q => by
    have q1 : y.kept ≠ [] := fun z => q (hy z)
    rw [hY]
    exact a7 (.inr (r.owe q1))
  have sx := r.mx
  have sy := r.my
  have t1 : (Y2 x y).want = Y1.want := by rw [hY]; exact b2
  have t2 : (Y2 x y).kept = Y1.kept := by rw [hY]; exact b3
  have t3 : x.ready.outE.want ≤ (X2 x y).want := b5
  rw [← hY] at a5 a8 b8 i1
  refine ⟨f.inv, f.sync, f.clear, f.owe, ?_, ?_, ?_⟩
  · rw [t1]
    by_cases q : x.kept = []
    · have q1 := (kept_nil h.xy).1 q
      have := r.sync
      omega
    · have := a8 q r.sync.symm r.clear
      omega
  · by_cases q : Y1.kept = []
    · have q1 := (kept_nil i1.yx).1 q
      have q2 := i1.yx.bw
      omega
    · have q1 := hb q
      have q2 : x.ready.outE.want + 1 ≤ (X2 x y).want := by
        unfold X2
        rw [← hY]
        exact b8 q (by rw [a2]; exact q1.symm) a4
      omega
  · rw [t2]
    by_cases q : Y1.kept = []
    · rw [q]; simp
    · have q1 := hb q
      have q2 := i1.yx.len
      omega
/-- After the last round nothing waits, and all is got. -/
theorem round_last (r : Rnd x y A C G H 36) : x.kept = [] ∧ y.kept = [] ∧ G ++ x.read = C ∧ H ++ y.read = A := by
  have h := r.inv
  have m1 := r.mx
  have m2 := r.my
  have m3 := r.ky
  have e1 := h.xy.wa
  have e2 := h.yx.wa
  refine ⟨(kept_nil h.xy).2 (by have := r.sync; omega), List.eq_nil_of_length_eq_zero (by omega), ?_, ?_⟩
  · rw [h.yx.got]; exact List.take_of_length_le (by omega)
  · rw [h.xy.got]; exact List.take_of_length_le (by omega)
end
end Go.Proofs.Ytgkjkgooonicbaa.Lm
