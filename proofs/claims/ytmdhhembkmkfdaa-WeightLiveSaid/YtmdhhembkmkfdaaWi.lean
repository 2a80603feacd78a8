/- A world of weights: no weight is lost. The theory of the steps, no program in sight. -/
import Derived.Test.YtmdhhembkmkfdaaWf
namespace Go.Proofs.Ytmdhhembkmkfdaa.Wt

/-- All weight of thing t that is under way. -/
def wsum (t : Nat) : List Way → Nat
  | [] => 0
  | x :: l => (if x.thing = t then x.wt else 0) + wsum t l
theorem wsum_snoc (t : Nat) (x : Way) : ∀ l : List Way, wsum t (l ++ [x]) = wsum t l + (if x.thing = t then x.wt else 0)
  | [] => by simp [wsum]
  | y :: l => by simp [wsum, wsum_snoc t x l]; omega
theorem wsum_erase (t : Nat) : ∀ (l : List Way) (i : Nat), i < l.length → wsum t l = wsum t (l.eraseIdx i) + (if (l.getD i noWay).thing = t then (l.getD i noWay).wt else 0)
  | [], i, h => by simp at h
  | y :: l, 0, _ => by simp [wsum]; omega
  | y :: l, i + 1, h => by
    have ih := wsum_erase t l i (by simpa using h)
    simp only [List.eraseIdx_cons_succ, wsum, List.getD_cons_succ]
    omega
theorem wsum_none (t : Nat) : ∀ l : List Way, (∀ x ∈ l, x.thing ≠ t) → wsum t l = 0
  | [], _ => rfl
  | y :: l, h => by
    simp only [wsum]
    rw [if_neg (h y (by simp)), wsum_none t l (fun x hx => h x (by simp [hx]))]

structure WI (s : Wd) : Prop where
  nodes : s.nodes = 3
  few : s.things.length ≤ 20
  short : s.way.length ≤ 60
  wayok : ∀ x ∈ s.way, x.thing < s.things.length ∧ (x.back = false → x.to < 3)
  none : ∀ t, s.things.length ≤ t → s.has 0 t = 0 ∧ s.has 1 t = 0 ∧ s.has 2 t = 0
  sum : ∀ t, t < s.things.length → (s.things.getD t noThing).out = s.has 0 t + s.has 1 t + s.has 2 t + wsum t s.way
  top : ∀ t, t < s.things.length → (s.things.getD t noThing).out ≤ 65536
  fr : ∀ t, t < s.things.length → (s.things.getD t noThing).freed = decide ((s.things.getD t noThing).out = 0)
theorem WI.start : WI ⟨3, [], fun _ _ => 0, []⟩ := ⟨rfl, by simp, by simp, by simp, by simp, by simp, by simp, by simp⟩
theorem WI.getWay {s : Wd} (h : WI s) {i : Nat} (hi : i < s.way.length) : (s.way.getD i noWay).thing < s.things.length ∧ ((s.way.getD i noWay).back = false → (s.way.getD i noWay).to < 3) :=
  h.wayok _ (by rw [List.getD_eq_getElem?_getD, List.getElem?_eq_getElem hi]; exact List.getElem_mem hi)
theorem three {n : Nat} (h : n < 3) : n = 0 ∨ n = 1 ∨ n = 2 := by omega
/-- A node's weight of one thing: what that makes of the sum. -/
theorem sum_at (f : Nat → Nat → Nat) {n : Nat} (hn : n < 3) (t v u : Nat) :
    ((if (0 : Nat) = n then at1 (f n) t v else f 0) u + (if (1 : Nat) = n then at1 (f n) t v else f 1) u + (if (2 : Nat) = n then at1 (f n) t v else f 2) u) + (if u = t then f n t else 0) = f 0 u + f 1 u + f 2 u + (if u = t then v else 0) := by
  rcases three hn with rfl | rfl | rfl <;> by_cases e : u = t <;> simp [at1, e] <;> omega
theorem chk_zero {s : Wd} {n t : Nat} (h : chk s n t = 0) : n < s.nodes ∧ t < s.things.length ∧ s.has n t ≠ 0 := by
  unfold chk at h
  by_cases q : n < s.nodes ∧ t < s.things.length
  · rw [if_pos q] at h
    by_cases z : s.has n t = 0
    · rw [if_pos z] at h; cases h
    · exact ⟨q.1, q.2, z⟩
  · rw [if_neg q] at h; cases h
theorem none_at {s : Wd} (h : WI s) {n : Nat} (hn : n < 3) {t : Nat} (ht : t < s.things.length) (v : Nat) : ∀ u, s.things.length ≤ u → (if (0 : Nat) = n then at1 (s.has n) t v else s.has 0) u = 0 ∧ (if (1 : Nat) = n then at1 (s.has n) t v else s.has 1) u = 0 ∧ (if (2 : Nat) = n then at1 (s.has n) t v else s.has 2) u = 0 := fun u hu => by
  obtain ⟨h0, h1, h2⟩ := h.none u hu
  have e : u ≠ t := by omega
  rcases three hn with rfl | rfl | rfl <;> simp [at1, e, h0, h1, h2]

theorem WI.made {s : Wd} (h : WI s) {n : Nat} (hn : n < 3) (h20 : s.things.length < 20) : WI (made s n) := by
  have hl : (Wt.made s n).things.length = s.things.length + 1 := by simp [Wt.made]
  have hold : ∀ t, t < s.things.length → (Wt.made s n).things.getD t noThing = s.things.getD t noThing := fun t ht => by
    simp only [Wt.made, List.getD_eq_getElem?_getD]; rw [List.getElem?_append_left ht]
  have hnew : (Wt.made s n).things.getD s.things.length noThing = ⟨n, 65536, false⟩ := by simp [Wt.made, List.getD_eq_getElem?_getD]
  refine ⟨h.nodes, by omega, h.short, fun x hx => ?_, fun t ht => ?_, fun t ht => ?_, fun t ht => ?_, fun t ht => ?_⟩
  · obtain ⟨a, b⟩ := h.wayok x hx; exact ⟨by omega, b⟩
  · rw [hl] at ht
    obtain ⟨h0, h1, h2⟩ := h.none t (by omega)
    have e : t ≠ s.things.length := by omega
    rcases three hn with rfl | rfl | rfl <;> simp [Wt.made, at1, e, h0, h1, h2]
  · have hs := sum_at s.has hn s.things.length 65536 t
    obtain ⟨n0, n1, n2⟩ := h.none s.things.length (Nat.le_refl _)
    have hn0 : s.has n s.things.length = 0 := by rcases three hn with rfl | rfl | rfl <;> assumption
    show _ = (if (0 : Nat) = n then at1 (s.has n) s.things.length 65536 else s.has 0) t + (if (1 : Nat) = n then at1 (s.has n) s.things.length 65536 else s.has 1) t + (if (2 : Nat) = n then at1 (s.has n) s.things.length 65536 else s.has 2) t + wsum t s.way
    by_cases e : t < s.things.length
    · rw [hold t e, h.sum t e]
      have e' : t ≠ s.things.length := by omega
      simp only [e', if_false] at hs
      omega
    · obtain rfl : t = s.things.length := by omega
      rw [hnew]
      have hw : wsum s.things.length s.way = 0 := wsum_none _ _ (fun x hx => by have := (h.wayok x hx).1; omega)
      simp only [if_true] at hs
      show 65536 = _
      omega
  · by_cases e : t < s.things.length
    · rw [hold t e]; exact h.top t e
    · obtain rfl : t = s.things.length := by omega
      rw [hnew]; exact Nat.le_refl _
  · by_cases e : t < s.things.length
    · rw [hold t e]; exact h.fr t e
    · obtain rfl : t = s.things.length := by omega
      rw [hnew]; rfl

theorem WI.le {s : Wd} (h : WI s) {n t : Nat} (hn : n < 3) (ht : t < s.things.length) : s.has n t ≤ 65536 := by
  have h1 := h.sum t ht
  have h2 := h.top t ht
  rcases three hn with rfl | rfl | rfl <;> omega
theorem WI.sent {s : Wd} (h : WI s) {n t d : Nat} (hk : chk s n t = 0) (hd : d < 3) (h60 : s.way.length < 60) : WI (sent s n t d) := by
  obtain ⟨hn, ht, -⟩ := chk_zero hk
  rw [h.nodes] at hn
  refine ⟨h.nodes, h.few, by simp [Wt.sent]; omega, fun x hx => ?_, none_at h hn ht _, fun u hu => ?_, h.top, h.fr⟩
  · rcases List.mem_append.1 hx with hx | hx
    · exact h.wayok x hx
    · obtain rfl : x = _ := by simpa using hx
      exact ⟨ht, fun _ => hd⟩
  · have hs := sum_at s.has hn t (s.has n t - s.has n t / 2) u
    have h1 := h.sum u hu
    show (s.things.getD u noThing).out = (if (0 : Nat) = n then at1 (s.has n) t (s.has n t - s.has n t / 2) else s.has 0) u + (if (1 : Nat) = n then at1 (s.has n) t (s.has n t - s.has n t / 2) else s.has 1) u + (if (2 : Nat) = n then at1 (s.has n) t (s.has n t - s.has n t / 2) else s.has 2) u + wsum u (s.way ++ [⟨d, t, s.has n t / 2, false⟩])
    rw [wsum_snoc]
    show _ = _ + (wsum u s.way + (if t = u then s.has n t / 2 else 0))
    by_cases e : u = t
    · subst e; simp only [if_true] at hs ⊢; omega
    · rw [if_neg (show ¬ t = u from fun q => e q.symm)]; rw [if_neg e, if_neg e] at hs; omega
theorem WI.dropped {s : Wd} (h : WI s) {n t : Nat} (hk : chk s n t = 0) (h60 : s.way.length < 60) : WI (dropped s n t) := by
  obtain ⟨hn, ht, -⟩ := chk_zero hk
  rw [h.nodes] at hn
  refine ⟨h.nodes, h.few, by simp [Wt.dropped]; omega, fun x hx => ?_, none_at h hn ht _, fun u hu => ?_, h.top, h.fr⟩
  · rcases List.mem_append.1 hx with hx | hx
    · exact h.wayok x hx
    · obtain rfl : x = _ := by simpa using hx
      exact ⟨ht, fun e => by cases e⟩
  · have hs := sum_at s.has hn t 0 u
    have h1 := h.sum u hu
    show (s.things.getD u noThing).out = (if (0 : Nat) = n then at1 (s.has n) t 0 else s.has 0) u + (if (1 : Nat) = n then at1 (s.has n) t 0 else s.has 1) u + (if (2 : Nat) = n then at1 (s.has n) t 0 else s.has 2) u + wsum u (s.way ++ [⟨(s.things.getD t noThing).home, t, s.has n t, true⟩])
    rw [wsum_snoc]
    show _ = _ + (wsum u s.way + (if t = u then s.has n t else 0))
    by_cases e : u = t
    · subst e; simp only [if_true] at hs ⊢; omega
    · rw [if_neg (show ¬ t = u from fun q => e q.symm)]; rw [if_neg e, if_neg e] at hs; omega
theorem mem_erase {l : List Way} {i : Nat} {x : Way} (h : x ∈ l.eraseIdx i) : x ∈ l := List.mem_of_mem_eraseIdx h
theorem WI.comeTo {s : Wd} (h : WI s) {i : Nat} (hi : i < s.way.length) {to' th wt : Nat} (hx : s.way.getD i noWay = ⟨to', th, wt, false⟩) :
    to' < 3 ∧ s.has to' th + wt ≤ 65536 ∧ WI (came s i ⟨to', th, wt, false⟩) := by
  obtain ⟨hth, hto⟩ := h.getWay hi
  rw [hx] at hth hto
  have ht3 : to' < 3 := hto rfl
  have hth' : th < s.things.length := hth
  have he := fun u => wsum_erase u s.way i hi
  rw [hx] at he
  simp only at he
  have hle : s.has to' th + wt ≤ 65536 := by
    have h1 := h.sum th hth'
    have h2 := h.top th hth'
    have h3 := he th
    simp only [if_true] at h3
    rcases three ht3 with rfl | rfl | rfl <;> omega
  refine ⟨ht3, hle, ⟨h.nodes, h.few, ?_, fun x hx => h.wayok x (mem_erase hx), none_at h ht3 hth' _, fun u hu => ?_, h.top, h.fr⟩⟩
  · have := h.short; show (s.way.eraseIdx i).length ≤ 60; rw [List.length_eraseIdx]; split <;> omega
  · have hs := sum_at s.has ht3 th (s.has to' th + wt) u
    have h1 := h.sum u hu
    have h3 := he u
    show (s.things.getD u noThing).out = (if (0 : Nat) = to' then at1 (s.has to') th (s.has to' th + wt) else s.has 0) u + (if (1 : Nat) = to' then at1 (s.has to') th (s.has to' th + wt) else s.has 1) u + (if (2 : Nat) = to' then at1 (s.has to') th (s.has to' th + wt) else s.has 2) u + wsum u (s.way.eraseIdx i)
    by_cases e : u = th
    · subst e; simp only [if_true] at hs h3; omega
    · rw [if_neg (fun q => e q.symm)] at h3; rw [if_neg e, if_neg e] at hs; omega
theorem WI.comeBack {s : Wd} (h : WI s) {i : Nat} (hi : i < s.way.length) {to' th wt : Nat} (hx : s.way.getD i noWay = ⟨to', th, wt, true⟩) :
    th < s.things.length ∧ wt ≤ (s.things.getD th noThing).out ∧ (s.things.getD th noThing).out ≤ 65536 ∧ WI (camehome s i ⟨to', th, wt, true⟩) := by
  obtain ⟨hth, -⟩ := h.getWay hi
  rw [hx] at hth
  have hth' : th < s.things.length := hth
  have he := fun u => wsum_erase u s.way i hi
  rw [hx] at he
  simp only at he
  have h1 := h.sum th hth'
  have h2 := h.top th hth'
  have h3 := he th
  simp only [if_true] at h3
  have hl : (camehome s i ⟨to', th, wt, true⟩).things.length = s.things.length := by simp [camehome]
  have hg : ∀ u, u < s.things.length → (camehome s i ⟨to', th, wt, true⟩).things.getD u noThing = if u = th then ⟨(s.things.getD th noThing).home, (s.things.getD th noThing).out - wt, decide ((s.things.getD th noThing).out - wt = 0)⟩ else s.things.getD u noThing := fun u hu => by
    simp only [camehome, List.getD_eq_getElem?_getD]
    by_cases e : u = th
    · subst e; simp [hu]
    · rw [if_neg e, List.getElem?_set_ne (fun q => e q.symm)]
  refine ⟨hth', by omega, h2, ⟨h.nodes, by rw [hl]; exact h.few, ?_, fun x hx => by rw [hl]; exact h.wayok x (mem_erase hx), fun t ht => h.none t (by rw [hl] at ht; exact ht), fun u hu => ?_, fun u hu => ?_, fun u hu => ?_⟩⟩
  · have := h.short; show (s.way.eraseIdx i).length ≤ 60; rw [List.length_eraseIdx]; split <;> omega
  · rw [hl] at hu
    rw [hg u hu]
    have h4 := h.sum u hu
    have h5 := he u
    show _ = s.has 0 u + s.has 1 u + s.has 2 u + wsum u (s.way.eraseIdx i)
    by_cases e : u = th
    · subst e; rw [if_pos rfl]; show (s.things.getD u noThing).out - wt = _; omega
    · rw [if_neg e]; rw [if_neg (fun q => e q.symm)] at h5; omega
  · rw [hl] at hu
    rw [hg u hu]
    by_cases e : u = th
    · subst e; rw [if_pos rfl]; show (s.things.getD u noThing).out - wt ≤ _; omega
    · rw [if_neg e]; exact h.top u hu
  · rw [hl] at hu
    rw [hg u hu]
    by_cases e : u = th
    · subst e; rw [if_pos rfl]
    · rw [if_neg e]; exact h.fr u hu
end Go.Proofs.Ytmdhhembkmkfdaa.Wt
