/- Two ends between which packets are lost, doubled and turned: the theory, no program in sight. -/
import Derived.Test.YtgkjkgooonicbaaLi
namespace Go.Proofs.Ytgkjkgooonicbaa.Lm

/-- From the end s to the end t: A was put in at s, G was got at t, these packets are under way to t. -/
structure Dir (s t : E) (A G : List (List Nat)) (way : List Pk) : Prop where
  len : s.base + s.kept.length = A.length
  kept : s.kept = A.drop s.base
  bw : s.base ≤ t.want
  wa : t.want ≤ A.length
  got : G ++ t.read = A.take t.want
  told : s.told ≤ s.kept.length
  pk : ∀ p ∈ way, (p.has = true → p.seq < A.length ∧ p.body = A.getD p.seq []) ∧ p.seq ≤ A.length ∧ p.window ≤ 16 ∧ p.body.length ≤ 3 ∧ p.ack ≤ s.want
structure Fit (e : E) : Prop where
  win1 : 1 ≤ e.window
  win : e.window ≤ 16
  kept : e.kept.length ≤ e.window
  read : e.read.length ≤ e.window
  limit : e.limit ≤ 16
structure Inv (x y : E) (A C G H : List (List Nat)) (wx wy : List Pk) : Prop where
  xy : Dir x y A H wy
  yx : Dir y x C G wx
  fx : Fit x
  fy : Fit y
  small : ∀ b ∈ A, b.length = 3
  small2 : ∀ b ∈ C, b.length = 3
theorem Inv.swap {x y : E} {A C G H : List (List Nat)} {wx wy : List Pk} (h : Inv x y A C G H wx wy) : Inv y x C A H G wy wx := ⟨h.yx, h.xy, h.fy, h.fx, h.small2, h.small⟩
theorem getD_small {A : List (List Nat)} (h : ∀ b ∈ A, b.length = 3) (i : Nat) : (A.getD i []).length ≤ 3 := by
  rw [List.getD_eq_getElem?_getD]
  cases hx : A[i]? with
  | none => simp
  | some b => simp only [Option.getD_some]; exact Nat.le_of_eq (h b (List.mem_of_getElem? hx))
theorem drop_getD (A : List (List Nat)) (k i : Nat) : (A.drop k).getD i [] = A.getD (k + i) [] := by
  simp [List.getD_eq_getElem?_getD, List.getElem?_drop]
section
variable {x y : E} {A C G H : List (List Nat)} {wx wy : List Pk}
theorem Inv.start {m n : Nat} (hm : 1 ≤ m) (hm2 : m ≤ 16) (hn : 1 ≤ n) (hn2 : n ≤ 16) : Inv (E.new m) (E.new n) [] [] [] [] [] [] :=
  ⟨⟨rfl, rfl, Nat.le_refl _, Nat.le_refl _, rfl, Nat.le_refl _, (fun p hp => by cases hp)⟩, ⟨rfl, rfl, Nat.le_refl _, Nat.le_refl _, rfl, Nat.le_refl _, (fun p hp => by cases hp)⟩, ⟨hm, hm2, Nat.zero_le _, Nat.zero_le _, hm2⟩, ⟨hn, hn2, Nat.zero_le _, Nat.zero_le _, hn2⟩, (fun b hb => by cases hb), (fun b hb => by cases hb)⟩
theorem Inv.ok (h : Inv x y A C G H wx wy) (hA : A.length ≤ 1000000) (hC : C.length ≤ 1000000) : x.Ok :=
  ⟨h.fx.win, h.fx.kept, h.fx.read, h.fx.limit, by have := h.xy.len; omega, by have := h.yx.wa; omega, fun i => by rw [h.xy.kept, drop_getD]; have := getD_small h.small (x.base + i); omega⟩
theorem Inv.put (h : Inv x y A C G H wx wy) (hk : x.kept.length < x.window) (b : List Nat) (hb : b.length = 3) : Inv (eput x b) y (A ++ [b]) C G H wx wy := by
  have hl := h.xy.len
  refine ⟨⟨?_, ?_, h.xy.bw, ?_, ?_, ?_, fun p hp => ?_⟩, ⟨h.yx.len, h.yx.kept, h.yx.bw, h.yx.wa, h.yx.got, h.yx.told, h.yx.pk⟩, ⟨h.fx.win1, h.fx.win, ?_, h.fx.read, h.fx.limit⟩, h.fy, fun c hc => ?_, h.small2⟩
  · show x.base + (x.kept ++ [b]).length = (A ++ [b]).length; simp; omega
  · show x.kept ++ [b] = (A ++ [b]).drop x.base
    rw [List.drop_append_of_le_length (by omega), ← h.xy.kept]
  · have := h.xy.wa; simp; omega
  · rw [List.take_append_of_le_length h.xy.wa]; exact h.xy.got
  · show x.told ≤ (x.kept ++ [b]).length; have := h.xy.told; simp; omega
  · obtain ⟨h1, h2, h3, h4, h5⟩ := h.xy.pk p hp
    refine ⟨fun q => ⟨by have := (h1 q).1; simp; omega, ?_⟩, by simp; omega, h3, h4, h5⟩
    rw [(h1 q).2]
    simp only [List.getD_eq_getElem?_getD]
    rw [List.getElem?_append_left (h1 q).1]
  · show (x.kept ++ [b]).length ≤ x.window; simp; omega
  · rcases List.mem_append.1 hc with q | q
    · exact h.small c q
    · simp at q; subst q; exact hb
theorem Inv.tick (h : Inv x y A C G H wx wy) : Inv (etick x) y A C G H wx wy :=
  ⟨⟨h.xy.len, h.xy.kept, h.xy.bw, h.xy.wa, h.xy.got, Nat.zero_le _, h.xy.pk⟩, ⟨h.yx.len, h.yx.kept, h.yx.bw, h.yx.wa, h.yx.got, h.yx.told, h.yx.pk⟩, ⟨h.fx.win1, h.fx.win, h.fx.kept, h.fx.read, by
    show (if x.kept.length = 0 then x.limit else max x.limit 1) ≤ 16
    split
    · exact h.fx.limit
    · exact Nat.max_le.2 ⟨h.fx.limit, by omega⟩⟩, h.fy, h.small, h.small2⟩
theorem Inv.gotten (h : Inv x y A C G H wx wy) : Inv (egot x) y A C (G ++ x.read) H wx wy :=
  ⟨⟨h.xy.len, h.xy.kept, h.xy.bw, h.xy.wa, h.xy.got, h.xy.told, h.xy.pk⟩, ⟨h.yx.len, h.yx.kept, h.yx.bw, h.yx.wa, by show G ++ x.read ++ [] = _; rw [List.append_nil]; exact h.yx.got, h.yx.told, h.yx.pk⟩, ⟨h.fx.win1, h.fx.win, h.fx.kept, Nat.zero_le _, h.fx.limit⟩, h.fy, h.small, h.small2⟩
theorem Inv.lose (h : Inv x y A C G H wx wy) (j : Nat) : Inv x y A C G H (wx.eraseIdx j) wy :=
  ⟨h.xy, ⟨h.yx.len, h.yx.kept, h.yx.bw, h.yx.wa, h.yx.got, h.yx.told, fun p hp => h.yx.pk p (List.mem_of_mem_eraseIdx hp)⟩, h.fx, h.fy, h.small, h.small2⟩
theorem says_mem (e : E) (a : Nat) : ∀ n, ∀ p ∈ e.says a n, ∃ j, j < n ∧ p = e.say (a + j)
  | 0, p, hp => by simp [E.says] at hp
  | n + 1, p, hp => by
    simp only [E.says] at hp
    rcases List.mem_append.1 hp with q | q
    · obtain ⟨j, h1, h2⟩ := says_mem e a n p q; exact ⟨j, by omega, h2⟩
    · simp at q; exact ⟨n, by omega, q⟩
theorem Inv.said (h : Inv x y A C G H wx wy) : Inv x.outE y A C G H wx (wy ++ x.out) := by
  have hl := h.xy.len
  have ht : x.top ≤ x.kept.length := by unfold E.top; omega
  refine ⟨⟨h.xy.len, h.xy.kept, h.xy.bw, h.xy.wa, h.xy.got, Nat.max_le.2 ⟨h.xy.told, ht⟩, fun p hp => ?_⟩, ⟨h.yx.len, h.yx.kept, h.yx.bw, h.yx.wa, h.yx.got, h.yx.told, h.yx.pk⟩, ⟨h.fx.win1, h.fx.win, h.fx.kept, h.fx.read, h.fx.limit⟩, h.fy, h.small, h.small2⟩
  rcases List.mem_append.1 hp with q | q
  · exact h.xy.pk p q
  · have hw := h.fx.win
    unfold E.out at q
    by_cases c : x.told < x.top
    · rw [if_pos c] at q
      obtain ⟨j, h1, rfl⟩ := says_mem x _ _ p q
      refine ⟨fun _ => ⟨?_, ?_⟩, ?_, ?_, ?_, Nat.le_refl _⟩
      · show x.base + (x.told + j) < A.length; omega
      · show x.kept.getD (x.told + j) [] = _; rw [h.xy.kept, drop_getD]; rfl
      · show x.base + (x.told + j) ≤ A.length; omega
      · show x.window - x.read.length ≤ 16; omega
      · show (x.kept.getD (x.told + j) []).length ≤ 3; rw [h.xy.kept, drop_getD]; exact getD_small h.small _
    · rw [if_neg c] at q
      by_cases c2 : x.owe = true
      · rw [if_pos c2] at q
        simp at q
        subst q
        exact ⟨fun z => (by cases z), by show x.base + x.kept.length ≤ _; omega, by show x.window - x.read.length ≤ 16; omega, Nat.zero_le _, Nat.le_refl _⟩
      · rw [if_neg c2] at q; cases q
/-- What a packet's answer leaves. -/
theorem Inv.ack (h : Inv x y A C G H wx wy) {p : Pk} (hp : p ∈ wx) : Inv (x.acked p) y A C G H wx wy := by
  obtain ⟨-, -, p3, -, p5⟩ := h.yx.pk p hp
  obtain ⟨s1, s2, s3, s4⟩ := E.acked_same x p
  have hl := h.xy.len
  have ht := h.xy.told
  have hyx : Dir y (x.acked p) C G wx := ⟨h.yx.len, h.yx.kept, by rw [s3]; exact h.yx.bw, by rw [s3]; exact h.yx.wa, by rw [s2, s3]; exact h.yx.got, h.yx.told, h.yx.pk⟩
  have hlim := h.fx.limit
  have hk := h.fx.kept
  by_cases c : x.base < p.ack ∧ p.ack ≤ x.base + x.kept.length
  · have e : x.acked p = { x with kept := x.kept.drop (p.ack - x.base), base := p.ack, told := x.told - (p.ack - x.base), limit := p.window } := by unfold E.acked; rw [if_pos c]
    rw [e] at hyx ⊢
    refine ⟨⟨?_, ?_, p5, h.xy.wa, h.xy.got, ?_, h.xy.pk⟩, hyx, ⟨h.fx.win1, h.fx.win, ?_, h.fx.read, p3⟩, h.fy, h.small, h.small2⟩
    · show p.ack + (x.kept.drop _).length = _; rw [List.length_drop]; omega
    · show x.kept.drop (p.ack - x.base) = A.drop p.ack; rw [h.xy.kept, List.drop_drop, show x.base + (p.ack - x.base) = p.ack by omega]
    · show x.told - _ ≤ (x.kept.drop _).length; rw [List.length_drop]; omega
    · show (x.kept.drop _).length ≤ x.window; rw [List.length_drop]; omega
  · by_cases c2 : p.ack = x.base
    · have e : x.acked p = { x with limit := max x.limit p.window } := by unfold E.acked; rw [if_neg c, if_pos c2]
      rw [e] at hyx ⊢
      exact ⟨⟨h.xy.len, h.xy.kept, h.xy.bw, h.xy.wa, h.xy.got, h.xy.told, h.xy.pk⟩, hyx, ⟨h.fx.win1, h.fx.win, h.fx.kept, h.fx.read, Nat.max_le.2 ⟨hlim, p3⟩⟩, h.fy, h.small, h.small2⟩
    · have e : x.acked p = x := by unfold E.acked; rw [if_neg c, if_neg c2]
      rw [e]; exact h
theorem Inv.owed (h : Inv x y A C G H wx wy) : Inv { x with owe := true } y A C G H wx wy :=
  ⟨⟨h.xy.len, h.xy.kept, h.xy.bw, h.xy.wa, h.xy.got, h.xy.told, h.xy.pk⟩, ⟨h.yx.len, h.yx.kept, h.yx.bw, h.yx.wa, h.yx.got, h.yx.told, h.yx.pk⟩, ⟨h.fx.win1, h.fx.win, h.fx.kept, h.fx.read, h.fx.limit⟩, h.fy, h.small, h.small2⟩
theorem Inv.come (h : Inv x y A C G H wx wy) {p : Pk} (hp : p ∈ wx) : Inv (x.come p) y A C G H wx wy := by
  obtain ⟨p1, -, -, -, -⟩ := h.yx.pk p hp
  obtain ⟨s1, s2, s3, s4⟩ := E.acked_same x p
  have k := h.ack hp
  unfold E.come
  by_cases c : p.has = true
  · rw [if_pos c]
    by_cases c2 : p.seq = x.want ∧ x.read.length < x.window
    · rw [if_pos c2]
      obtain ⟨q1, q2⟩ := p1 c
      obtain ⟨r1, r2⟩ := c2
      have k2 := k.owed
      have hg := h.yx.got
      refine ⟨⟨k.xy.len, k.xy.kept, k.xy.bw, k.xy.wa, k.xy.got, k.xy.told, fun p' hp' => ?_⟩, ⟨k.yx.len, k.yx.kept, ?_, ?_, ?_, k.yx.told, k.yx.pk⟩, ⟨k.fx.win1, k.fx.win, k.fx.kept, ?_, k.fx.limit⟩, k.fy, k.small, k.small2⟩
      · obtain ⟨a1, a2, a3, a4, a5⟩ := k.xy.pk p' hp'
        exact ⟨a1, a2, a3, a4, by rw [s3] at a5; show p'.ack ≤ x.want + 1; omega⟩
      · show y.base ≤ x.want + 1; have := h.yx.bw; omega
      · show x.want + 1 ≤ C.length; omega
      · show G ++ (x.read ++ [p.body]) = C.take (x.want + 1)
        rw [← List.append_assoc, hg, q2, r1]
        have hlt : x.want < C.length := by omega
        rw [List.take_add_one, List.getD_eq_getElem?_getD, List.getElem?_eq_getElem hlt]
        rfl
      · show (x.read ++ [p.body]).length ≤ (x.acked p).window; rw [s1, List.length_append]; simp; omega
    · rw [if_neg c2]; exact k.owed
  · rw [if_neg c]; exact k
end
end Go.Proofs.Ytgkjkgooonicbaa.Lm
