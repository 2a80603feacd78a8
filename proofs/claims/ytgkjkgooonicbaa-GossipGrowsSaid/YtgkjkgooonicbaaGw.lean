/- Gossip: what stays so of nodes that doubt, tick and hear one another; chatter. -/
import Derived.Test.YtgkjkgooonicbaaGv
namespace Go.Proofs.Ytgkjkgooonicbaa.Gs
open Go Go.RowKit Go.Proofs.Ytgkjkgooonicbaa Go.Proofs.Ytgkjkgooonicbaa.K Go.Proofs.Ytgkjkgooonicbaa.M Go.Proofs.Ytgkjkgooonicbaa.O Go.Proofs.Ytgkjkgooonicbaa.R

set_option maxHeartbeats 2000000 in
set_option maxRecDepth 100000 in
/-- Doubt of the node itself, or of one that is doubted already: nothing is changed. -/
theorem doubt_no {w : World} {F : List Nat} {g : Nat} {s : G} (h : IsG w F g s) (hs : Sorted s.rows) (h8 : s.rows.length ≤ 100) (t : Nat) (ht : hasRow s.rows t = true) (hno : t = s.me ∨ (s.rows.getD (posOf s.rows t) noRow).says ≠ 1) :
    Calls Try.prog 32 #[.pointer (some ⟨g, 0, none⟩), .int .i64 (t : Int)] w fun e w' => (∃ c, e = .returned (.int .i64 c)) ∧ Upd [] w w' := by
  obtain ⟨v, b, h0, hF⟩ := h
  have FD := find_any h0 hs h8 t
  rw [ht] at FD
  have hp : posOf s.rows t < s.rows.length := by
    unfold hasRow at ht
    exact (of_decide_eq_true ht).1
  obtain ⟨p, hpp⟩ : ∃ p, p = posOf s.rows t := ⟨_, rfl⟩
  rw [← hpp] at FD hp hno
  obtain ⟨r, k, e, c0, c1, c2, cf, l1, l2⟩ := h0.row hp
  subst e
  obtain ⟨n, hn⟩ : ∃ n, n = s.rows.length := ⟨_, rfl⟩
  obtain ⟨sa, hsa⟩ : ∃ x, x = (s.rows.getD p noRow).says := ⟨_, rfl⟩
  rw [← hsa] at c2 hno
  have CS := hid h0.cells
  rw [← hn] at hp l1
  have hp' : (p : Int) < (n : Int) := by omega
  have C2 := hid c2
  have FF := hid FD
  have HN := hid hn
  clear h0 hs ht hpp FD c0 c1 c2 hn hF cf h8 hsa
  by_cases hme : t = s.me
  · have hme' : ((t : Int) == (s.me : Int)) = true := by rw [beq_iff_eq]; omega
    clear hno hme
    go_enter Try.func32, Try.ntmps32
    go_wp2_with fail
    refine FF.out.mono ?_
    rintro e w1 ⟨rfl, hu⟩
    have U1 := hid hu
    have c2 := hu.cell C2.out (by simp)
    have cg0 := hu.cell CS.out.1 (by simp)
    clear hu
    go_wp2_with fail
    go_ret
    exact ⟨⟨_, rfl⟩, U1.out⟩
  · have hme' : ((t : Int) == (s.me : Int)) = false := by rw [beq_eq_false_iff_ne]; omega
    have hsa' : ((sa : Int) == 1) = false := by
      rw [beq_eq_false_iff_ne]
      rcases hno with q | q
      · exact absurd q hme
      · omega
    clear hno hme
    go_enter Try.func32, Try.ntmps32
    go_wp2_with fail
    refine FF.out.mono ?_
    rintro e w1 ⟨rfl, hu⟩
    have U1 := hid hu
    have c2 := hu.cell C2.out (by simp)
    have cg0 := hu.cell CS.out.1 (by simp)
    have cg2 := hu.cell CS.out.2.2.1 (by simp)
    rw [← HN.out] at cg2
    clear hu
    go_wp2_with fail
    go_ret
    exact ⟨⟨_, rfl⟩, U1.out⟩
/-- What is known of a row when another one is told. -/
def comb (me : Nat) (x r : Row) : Row := if newer x r = true then (if r.node = me then (if r.says = 1 then r else ⟨me, min (r.turn + 1) 1099511627776, 1⟩) else r) else x
/-- The rows of the nodes 1 to n come first. -/
def Pre (n : Nat) (l : List Row) : Prop := n ≤ l.length ∧ ∀ k, k < n → (l.getD k noRow).node = k + 1
theorem Full.pre {n : Nat} {l : List Row} (h : Full n l) : Pre n l := ⟨by rw [h.1]; exact Nat.le_refl _, h.2⟩
theorem Pre.pos {n : Nat} {l : List Row} (h : Pre n l) {k : Nat} (hk : k < n) : posOf l (k + 1) = k :=
  posOf_eq l (k + 1) k (by have := h.1; omega) (fun j hj => by rw [h.2 j (by omega)]; omega) (fun _ => by rw [h.2 k hk]; omega)
theorem Pre.has {n : Nat} {l : List Row} (h : Pre n l) {k : Nat} (hk : k < n) : hasRow l (k + 1) = true :=
  hasRow_iff.2 ⟨by rw [h.pos hk]; have := h.1; omega, by rw [h.pos hk]; exact h.2 k hk⟩
theorem Pre.rput {n : Nat} {l : List Row} (h : Pre n l) {k : Nat} (hk : k < n) {r : Row} (hr : r.node = k + 1) (me : Nat) :
    (rput me l r).length = l.length ∧ Pre n (rput me l r) ∧ ∀ j, (rput me l r).getD j noRow = if j = k then comb me (l.getD k noRow) r else l.getD j noRow := by
  have e : Gs.rput me l r = if newer (l.getD k noRow) r = true then (if r.node = me then l.set k (if r.says = 1 then r else ⟨me, min (r.turn + 1) 1099511627776, 1⟩) else l.set k r) else l := by
    unfold Gs.rput
    rw [hr, if_pos (h.has hk), h.pos hk]
  have hkl : k < l.length := by have := h.1; omega
  have e2 : Gs.rput me l r = l.set k (comb me (l.getD k noRow) r) := by
    rw [e]
    unfold comb
    split
    · split <;> rfl
    · refine (List.ext_getElem (by simp) (fun j h1 h2 => ?_)).symm
      rw [List.getElem_set]
      split
      · rename_i q
        subst q
        rw [List.getD_eq_getElem?_getD, List.getElem?_eq_getElem hkl]; rfl
      · rfl
  have hn : (comb me (l.getD k noRow) r).node = k + 1 := by
    unfold comb
    split
    · split
      · split
        · exact hr
        · rename_i q _; simp only; omega
      · exact hr
    · exact h.2 k hk
  rw [e2]
  refine ⟨by simp, ⟨by rw [List.length_set]; exact h.1, fun j hj => ?_⟩, fun j => getD_set l k _ j hkl⟩
  rw [getD_set l k _ j hkl]
  by_cases q : j = k
  · rw [if_pos q, hn, q]
  · rw [if_neg q]; exact h.2 j hj
theorem Pre.rmerge {n : Nat} {l r : List Row} (h : Pre n l) (hr : Full n r) (me : Nat) :
    ∀ m, m ≤ n → (rmerge me l (r.take m)).length = l.length ∧ Pre n (rmerge me l (r.take m)) ∧ ∀ j, (rmerge me l (r.take m)).getD j noRow = if j < m then comb me (l.getD j noRow) (r.getD j noRow) else l.getD j noRow
  | 0, _ => ⟨rfl, h, fun j => by rw [if_neg (by omega)]; rfl⟩
  | m + 1, hm => by
    obtain ⟨h1, h2, h3⟩ := Pre.rmerge h hr me m (by omega)
    have hml : m < r.length := by rw [hr.1]; omega
    have e : Gs.rmerge me l (r.take (m + 1)) = Gs.rput me (Gs.rmerge me l (r.take m)) (r.getD m noRow) := by
      unfold Gs.rmerge
      rw [List.take_add_one, List.foldl_append, List.getD_eq_getElem?_getD, List.getElem?_eq_getElem hml]
      rfl
    obtain ⟨p1, p2, p3⟩ := h2.rput (k := m) (by omega) (hr.2 m (by omega)) me
    rw [e]
    refine ⟨p1.trans h1, p2, fun j => ?_⟩
    rw [p3 j]
    by_cases q : j = m
    · subst q
      rw [if_pos rfl, if_pos (by omega), h3, if_neg (by omega)]
    · rw [if_neg q, h3]
      by_cases q2 : j < m
      · rw [if_pos q2, if_pos (by omega)]
      · rw [if_neg q2, if_neg (by omega)]
theorem Pre.merged {n : Nat} {l r : List Row} (h : Pre n l) (hr : Full n r) (me : Nat) :
    (Gs.rmerge me l r).length = l.length ∧ Pre n (Gs.rmerge me l r) ∧ ∀ j, (Gs.rmerge me l r).getD j noRow = if j < n then comb me (l.getD j noRow) (r.getD j noRow) else l.getD j noRow := by
  have := h.rmerge hr me n (Nat.le_refl n)
  rw [List.take_of_length_le (by rw [hr.1]; exact Nat.le_refl _)] at this
  exact this
/-- Node i of n, as it may be. -/
structure Ok (n i : Nat) (s : G) : Prop where
  me : s.me = i + 1
  wf : WF s.rows
  full : Full n s.rows
  own : (s.rows.getD i noRow).says = 1
  sn : ∀ x, s.since x < s.ticks
  tk : s.ticks ≤ 100
theorem Ok.begun {n tk i : Nat} {s : G} (h : Begun n tk i s) (hi : i < n) (h8 : n ≤ 8) (t1 : 1 ≤ tk) (t2 : tk ≤ 100) : Ok n i s :=
  ⟨h.1, by rw [h.2.2.1]; exact rall_wf n (by omega) h8, by rw [h.2.2.1]; exact rall_full n, by rw [h.2.2.1, rall_get n i hi], fun x => by rw [h.2.2.2.2 x, h.2.1]; omega, by rw [h.2.1]; exact t2⟩
/-- The state behind Doubt of node k + 1. -/
def dbt (s : G) (k : Nat) : G := { s with rows := sayAt s.rows k 2, since := at1 s.since (k + 1) 0 }
theorem sayAt_get (l : List Row) (k sa j : Nat) (hk : k < l.length) : (sayAt l k sa).getD j noRow = if j = k then ⟨(l.getD k noRow).node, (l.getD k noRow).turn, sa⟩ else l.getD j noRow := by
  unfold sayAt
  rw [getD_set l k _ j hk]
theorem WF.say {l : List Row} (h : WF l) {k sa : Nat} (hk : k < l.length) (h1 : 1 ≤ sa) (h3 : sa ≤ 3) : WF (sayAt l k sa) := by
  have := h.2.2 k hk
  exact h.set hk ⟨this.1, this.2.1, this.2.2.1, h1, h3⟩ rfl
theorem Ok.dbt {n i k : Nat} {s : G} (h : Ok n i s) (hk : k < n) (hki : k ≠ i) : Ok n i (dbt s k) := by
  have hkl : k < s.rows.length := by rw [h.full.1]; exact hk
  refine ⟨h.me, h.wf.say hkl (by decide) (by decide), h.full.say hk 2, ?_, fun x => ?_, h.tk⟩
  · show ((sayAt s.rows k 2).getD i noRow).says = 1
    rw [sayAt_get _ _ _ _ hkl, if_neg (fun q => hki q.symm)]
    exact h.own
  · show at1 s.since (k + 1) 0 x < s.ticks
    unfold at1
    have := h.sn x
    split <;> omega
theorem Ok.tick1 {n i k : Nat} {s : G} (h : Ok n i s) (hk : k < n) : Ok n i (tick1 s k) ∧ ∀ j, ((Gs.tick1 s k).rows.getD j noRow).turn = (s.rows.getD j noRow).turn ∧ (s.rows.getD j noRow).says ≤ ((Gs.tick1 s k).rows.getD j noRow).says := by
  have hkl : k < s.rows.length := by rw [h.full.1]; exact hk
  unfold Gs.tick1
  split
  · rename_i h2
    split
    · refine ⟨⟨h.me, h.wf.say hkl (by decide) (by decide), h.full.say hk 3, ?_, fun x => ?_, h.tk⟩, fun j => ?_⟩
      · show ((sayAt s.rows k 3).getD i noRow).says = 1
        rw [sayAt_get _ _ _ _ hkl, if_neg (fun q => by have := h.own; rw [q, h2] at this; cases this)]
        exact h.own
      · show at1 (at1 s.since _ _) _ 0 x < s.ticks
        unfold at1
        have := h.sn x
        split <;> omega
      · show ((sayAt s.rows k 3).getD j noRow).turn = _ ∧ _ ≤ ((sayAt s.rows k 3).getD j noRow).says
        rw [sayAt_get _ _ _ _ hkl]
        split
        · rename_i q
          subst q
          exact ⟨rfl, by rw [h2]; simp⟩
        · exact ⟨rfl, Nat.le_refl _⟩
    · rename_i h3
      refine ⟨⟨h.me, h.wf, h.full, h.own, fun x => ?_, h.tk⟩, fun j => ⟨rfl, Nat.le_refl _⟩⟩
      show at1 s.since _ _ x < s.ticks
      unfold at1
      have := h.sn x
      split <;> omega
  · exact ⟨h, fun j => ⟨rfl, Nat.le_refl _⟩⟩
theorem Ok.tickN {n i : Nat} {s : G} (h : Ok n i s) : ∀ k, k ≤ n → Ok n i (tickN s k) ∧ ∀ j, ((Gs.tickN s k).rows.getD j noRow).turn = (s.rows.getD j noRow).turn ∧ (s.rows.getD j noRow).says ≤ ((Gs.tickN s k).rows.getD j noRow).says
  | 0, _ => ⟨h, fun j => ⟨rfl, Nat.le_refl _⟩⟩
  | k + 1, hk => by
    obtain ⟨h1, h2⟩ := Ok.tickN h k (by omega)
    obtain ⟨h3, h4⟩ := h1.tick1 (k := k) (by omega)
    exact ⟨h3, fun j => ⟨(h4 j).1.trans (h2 j).1, Nat.le_trans (h2 j).2 (h4 j).2⟩⟩
/-- The state behind Tick. -/
def tck (s : G) : G := tickN s s.rows.length
theorem Ok.tck {n i : Nat} {s : G} (h : Ok n i s) : Ok n i (tck s) ∧ ∀ j, ((Gs.tck s).rows.getD j noRow).turn = (s.rows.getD j noRow).turn ∧ (s.rows.getD j noRow).says ≤ ((Gs.tck s).rows.getD j noRow).says := h.tickN _ (by rw [h.full.1]; exact Nat.le_refl _)
theorem comb_own {me : Nat} {x r : Row} (hx : x.says = 1) (hn : r.node = me) : (comb me x r).says = 1 := by
  unfold comb
  split
  · first | rw [if_pos hn] | skip
    split
    · assumption
    · rfl
  · exact hx
theorem Ok.merge {n i : Nat} {s : G} (h : Ok n i s) (hi : i < n) (h8 : n ≤ 8) {l : List Row} (hw : WF l) (hf : Full n l) : Ok n i (gmerge s l) := by
  obtain ⟨g1, g2, g3, g4, g5⟩ := gmerge_rmerge l s
  obtain ⟨m1, m2, m3⟩ := h.full.pre.merged hf s.me
  have w := h.wf.gmerge (by rw [h.me]; omega) l hw.2.2
  refine ⟨g2.trans h.me, w.1, ⟨by rw [g1, m1]; exact h.full.1, by rw [g1]; exact m2.2⟩, ?_, fun x => ?_, by rw [g3]; exact h.tk⟩
  · rw [g1, m3 i, if_pos hi]
    exact comb_own h.own (by rw [hf.2 i hi, h.me])
  · rw [g3]
    exact Nat.lt_of_le_of_lt (g5 x) (h.sn x)
theorem upf_self {α : Type} (f : Nat → α) (i : Nat) : upf f i (f i) = f := by
  funext k
  unfold upf
  split
  · rename_i h; rw [h]
  · rfl
section
variable {B n : Nat} {Z : List Nat} {w : World} {g : Nat → Nat} {s : Nat → G}
theorem net_doubt_any (h : Net B Z n w g s) {i : Nat} (hi : i < n) (hB : B ≤ w.heap.size) (ho : Ok n i (s i)) {k t : Nat} (hk : k < n) (ht : t = k + 1) :
    Calls Try.prog 32 #[.pointer (some ⟨g i, 0, none⟩), .int .i64 (t : Int)] w fun e w' => ∃ c s', e = .returned (.int .i64 c) ∧ Net B Z n w' g (upf s i s') ∧ (s' = s i ∨ (k ≠ i ∧ ((s i).rows.getD k noRow).says = 1 ∧ s' = dbt (s i) k)) ∧ Far B Z w w' := by
  have hl := ho.wf.len
  by_cases c : t ≠ (s i).me ∧ ((s i).rows.getD k noRow).says = 1
  · refine (net_doubt h hi hB ho.wf ho.full hk ht c.1 c.2).mono ?_
    rintro e w' ⟨rfl, h1, h2⟩
    refine ⟨0, dbt (s i) k, rfl, ?_, .inr ⟨fun q => c.1 (by rw [ht, ho.me, q]), c.2, rfl⟩, h2⟩
    subst ht
    exact h1
  · obtain ⟨F, hg, -, -⟩ := h.step hi
    refine (doubt_no hg ho.wf.1 (by omega) t (by rw [ht]; exact ho.full.has hk) ?_).mono ?_
    · rw [ht, ho.full.pos hk, ← ht]
      by_cases q : t = (s i).me
      · exact .inl q
      · exact .inr (fun q2 => c ⟨q, q2⟩)
    · rintro e w' ⟨⟨c, rfl⟩, hu⟩
      exact ⟨c, s i, rfl, by rw [upf_self]; exact h.new hu, .inl rfl, Far.of_nil hu⟩
end

set_option maxHeartbeats 16000000 in
set_option maxRecDepth 100000 in
theorem chatter_any {B n : Nat} {Z : List Nat} {w : World} {g : Nat → Nat} {s : Nat → G} (hn1 : 1 ≤ n) (hn8 : n ≤ 8) (I : Nat → (Nat → G) → Prop) (hok : ∀ t s, I t s → ∀ i, i < n → Ok n i (s i)) (hI0 : ∀ t s, I t s → I (t + 1) s)
    (hID : ∀ t s i k, I t s → i < n → k < n → k ≠ i → ((s i).rows.getD k noRow).says = 1 → I (t + 1) (upf s i (dbt (s i) k))) (hIT : ∀ t s i, I t s → i < n → I (t + 1) (upf s i (tck (s i))))
    (hIM : ∀ t s i j, I t s → i < n → j < n → I (t + 1) (upf s i (gmerge (s i) (s j).rows)))
    {t0 : Nat} (hN : Net B Z n w g s) (hI : I t0 s) (hB : B ≤ w.heap.size) {q k : Nat} (hq : q ∈ Z) (hO : w.ownsRow B 55 1 (.slice (some ⟨q, 0, none⟩) n k) n (ptrs g n))
    {a : Option Addr} {len cap : Nat} {xs : List Int} (hX : ∀ wz, Far B Z w wz → IntRow wz a xs) (hl : xs.length = len) (hlc : len ≤ cap) (hc : cap ≤ 9223372036854775807) :
    Calls Try.prog 35 #[.slice (some ⟨q, 0, none⟩) n k, .slice a len cap] w fun e w' => e = .returned (.bool true) ∧ ∃ s', Net B Z n w' g s' ∧ I (t0 + min len 150) s' ∧ Far B Z w w' := by
  have HOK := hid hok
  have HI0 := hid hI0
  have HID := hid hID
  have HIT := hid hIT
  have HIM := hid hIM
  have HN := hid hN
  have HI := hid hI
  have HB := hid hB
  have HQ := hid hq
  have HO := hid hO
  have HX := hid hX
  have HL := hid hl
  clear hok hI0 hID hIT hIM hN hI hB hq hO hX hl
  obtain ⟨m, hm⟩ : ∃ m : Nat, min (len : Int) 150 = (m : Int) := ⟨min len 150, by omega⟩
  have HMM := hid (show min len 150 = m by omega)
  have hmin := fun ats ty => min_nat ats ty .i64 .i64 (len : Int) 150 m hm
  have hm1 : m ≤ len := by omega
  have hm2 : m ≤ 150 := by omega
  clear hm
  go_enter Try.func35, Try.ntmps35
  go_wp2_with fail
  go_loopg [15] m (fun d v15 wr => ∃ (j : Nat) (s' : Nat → G), v15 = .int .i64 (j : Int) ∧ j ≤ m ∧ Hid (j + d = m) ∧ Hid (Net B Z n wr g s') ∧ Hid (I (t0 + j) s') ∧ Hid (Far B Z w wr))
  case atStart => exact ⟨0, s, rfl, by omega, hid (by omega), HN, HI, hid (Far.refl _ _ _)⟩
  case round =>
    clear HN HI
    obtain ⟨j, s, rfl, hj, Hd, HN, HI, HF⟩ := hrel
    by_cases hjm : j < m
    · have hj' : (j : Int) < (m : Int) := by omega
      obtain ⟨xa, rfl, hcw⟩ := HX.out wr HF.out j (by rw [HL.out]; omega)
      obtain ⟨x, hx⟩ : ∃ x, x = xs.getD j 0 := ⟨_, rfl⟩
      rw [← hx] at hcw
      clear hx
      go_wp2_with fail
      refine (rest_some _ (n : Int) _ (by omega) (by omega)).mono ?_
      rintro e w' ⟨r1, hr1, -, rfl, rfl⟩
      go_wp2_with fail
      refine (rest_some _ (n : Int) _ (by omega) (by omega)).mono ?_
      rintro e w' ⟨r2, hr2, -, rfl, rfl⟩
      go_wp2_with fail
      refine (rest_some _ 8 _ (by omega) (by omega)).mono ?_
      rintro e w' ⟨r3, hr3, -, rfl, rfl⟩
      have hr1n : r1 < n := by omega
      have hr2n : r2 < n := by omega
      have OW := hid (HF.out.own HO.out (fun x hx => by simp [Value.ownBlock] at hx; subst hx; exact HQ.out))
      obtain ⟨q', k', e, c1⟩ := ptr_at OW.out hr1n
      cases e
      obtain ⟨q', k', e, c2⟩ := ptr_at OW.out hr2n
      cases e
      have OKS := hid (HOK.out _ _ HI.out)
      have HBR := hid (show B ≤ wr.heap.size by have := HF.out.size; have := HB.out; omega)
      have H1 := hid hr1n
      have H2 := hid hr2n
      clear hr1n hr2n
      by_cases h30 : r3 = 0
      · have b30 : ((r3 : Int) == 0) = true := by rw [beq_iff_eq]; omega
        obtain ⟨u, hu⟩ : ∃ u, u = r2 + 1 := ⟨_, rfl⟩
        have hwu : IntKind.i64.wrap ((r2 : Int) + 1) = (u : Int) := by rw [IntWalk.i64_in _ (by omega)]; omega
        have DA := hid (net_doubt_any HN.out H1.out HBR.out (OKS.out _ H1.out) H2.out hu)
        clear h30 hu c2
        go_wp2_with fail
        refine DA.out.mono ?_
        rintro e w3 ⟨c, s3, rfl, n3, hs3, f3⟩
        have N3 := hid n3
        have F3 := hid f3
        have I3 := hid (show I (t0 + j + 1) (upf s r1 s3) by
          rcases hs3 with rfl | ⟨p1, p2, rfl⟩
          · rw [upf_self]; exact HI0.out _ _ HI.out
          · exact HID.out _ _ _ _ HI.out H1.out H2.out p1 p2)
        clear n3 f3 hs3 DA
        go_wp2_with fail
        go_roundg (m - (j + 1))
        case measure => have := Hd.out; omega
        case rel => exact ⟨j + 1, _, by go_num, by omega, hid (by omega), N3, I3, hid (HF.out.trans F3.out)⟩
      · have b30 : ((r3 : Int) == 0) = false := by rw [beq_eq_false_iff_ne]; omega
        by_cases h31 : r3 = 1
        · have b31 : ((r3 : Int) == 1) = true := by rw [beq_iff_eq]; omega
          have TA := hid (net_tick HN.out H1.out HBR.out (by have := (OKS.out _ H1.out).wf.len; omega) (fun x => by have := (OKS.out _ H1.out).sn x; have := (OKS.out _ H1.out).tk; omega))
          clear h31 h30 c2
          go_wp2_with fail
          refine TA.out.mono ?_
          rintro e w3 ⟨rfl, n3, f3⟩
          have N3 := hid n3
          have F3 := hid f3
          have I3 := hid (show I (t0 + j + 1) (upf s r1 (tck (s r1))) from HIT.out _ _ _ HI.out H1.out)
          clear n3 f3 TA
          go_wp2_with fail
          go_roundg (m - (j + 1))
          case measure => have := Hd.out; omega
          case rel => exact ⟨j + 1, _, by go_num, by omega, hid (by omega), N3, I3, hid (HF.out.trans F3.out)⟩
        · have b31 : ((r3 : Int) == 1) = false := by rw [beq_eq_false_iff_ne]; omega
          clear h31 h30
          have KEEP := hid (show ∀ wz, Upd [] wr wz → wz.cell? ⟨q, r1, none⟩ = some (.pointer (some ⟨g r1, 0, none⟩)) ∧ wz.cell? ⟨q, r2, none⟩ = some (.pointer (some ⟨g r2, 0, none⟩)) from fun wz u => ⟨u.cell c1 (by simp), u.cell c2 (by simp)⟩)
          have KEEQ := hid (show ∀ wz, Far B Z wr wz → wz.cell? ⟨q, r1, none⟩ = some (.pointer (some ⟨g r1, 0, none⟩)) ∧ wz.cell? ⟨q, r2, none⟩ = some (.pointer (some ⟨g r2, 0, none⟩)) from fun wz f => by
            have O := f.own OW.out (fun x hx => by simp [Value.ownBlock] at hx; subst hx; exact HQ.out)
            obtain ⟨_, _, e, d1⟩ := ptr_at O H1.out
            cases e
            obtain ⟨_, _, e, d2⟩ := ptr_at O H2.out
            cases e
            exact ⟨d1, d2⟩)
          clear c1 c2
          have l1 : (r1 : Int) < (n : Int) := hr1
          have l2 : (r2 : Int) < (n : Int) := hr2
          go_upto_region 6 with (fail)
          refine J.J_begin (fun wz => wz.cell? ⟨q, r1, none⟩ = some (.pointer (some ⟨g r1, 0, none⟩)) ∧ wz.cell? ⟨q, r2, none⟩ = some (.pointer (some ⟨g r2, 0, none⟩))) 10 (by kernel_rfl) ⟨by kernel_rfl, by kernel_rfl, by kernel_rfl⟩ (KEEP.out _ ((Upd.refl [] wr).drew)) (fun LAST HS => ?_)
          refine J.J_take (i := 0) (v := ?_) LAST (by rfl) (by decide) (by kernel_rfl) (by kernel_rfl) (by intro _ _ _ h; exact h) HS (Or.inl ⟨by rfl, ?_⟩) ?_
          rotate_left
          · intro w hSw; (try dsimp only at hSw); go_simp; try with_reducible rfl
          try simp only [Act.put, List.setIfInBounds_toArray, List.set_cons_zero, List.set_cons_succ]
          refine J.J_take (i := 1) (v := ?_) LAST (by rfl) (by decide) (by kernel_rfl) (by kernel_rfl) (by intro _ _ _ h; exact h) HS (Or.inl ⟨by rfl, ?_⟩) ?_
          rotate_left
          · intro w hSw; (try dsimp only at hSw); go_simp; try with_reducible rfl
          try simp only [Act.put, List.setIfInBounds_toArray, List.set_cons_zero, List.set_cons_succ]
          refine J.J_take (i := 2) (v := ?_) LAST (by rfl) (by decide) (by kernel_rfl) (by kernel_rfl) (by intro _ _ _ h; exact h) HS (Or.inl ⟨by rfl, ?_⟩) ?_
          rotate_left
          · intro w hSw; (try dsimp only at hSw); go_simp; try with_reducible rfl
          try simp only [Act.put, List.setIfInBounds_toArray, List.set_cons_zero, List.set_cons_succ]
          refine J.J_take (i := 3) (v := ?_) LAST (by rfl) (by decide) (by kernel_rfl) (by kernel_rfl) (by intro _ _ _ h; exact h) HS (Or.inl ⟨by rfl, ?_⟩) ?_
          rotate_left
          · intro w hSw; (try dsimp only at hSw); go_simp; try with_reducible rfl
          try simp only [Act.put, List.setIfInBounds_toArray, List.set_cons_zero, List.set_cons_succ]
          refine J.J_take (i := 4) (v := ?_) LAST (by rfl) (by decide) (by kernel_rfl) (by kernel_rfl) (by intro _ _ _ h; exact h) HS (Or.inl ⟨by rfl, ?_⟩) ?_
          rotate_left
          · intro w hSw; (try dsimp only at hSw); go_simp; try with_reducible rfl
          try simp only [Act.put, List.setIfInBounds_toArray, List.set_cons_zero, List.set_cons_succ]
          refine J.J_take (i := 5) (v := ?_) LAST (by rfl) (by decide) (by kernel_rfl) (by kernel_rfl) (by intro _ _ _ h; exact h) HS (Or.inl ⟨by rfl, ?_⟩) ?_
          rotate_left
          · intro w hSw; (try dsimp only at hSw); go_simp; try with_reducible rfl
          try simp only [Act.put, List.setIfInBounds_toArray, List.set_cons_zero, List.set_cons_succ]
          refine J.J_take (i := 6) (v := ?_) LAST (by rfl) (by decide) (by kernel_rfl) (by kernel_rfl) (by intro _ _ _ h; exact h) HS (Or.inl ⟨by rfl, ?_⟩) ?_
          rotate_left
          · intro w hSw; (try dsimp only at hSw); go_simp; try with_reducible rfl
          try simp only [Act.put, List.setIfInBounds_toArray, List.set_cons_zero, List.set_cons_succ]
          refine J.J_take (i := 7) (v := ?_) LAST (by rfl) (by decide) (by kernel_rfl) (by kernel_rfl) (by intro _ _ _ h; exact h) HS (Or.inl ⟨by rfl, ?_⟩) ?_
          rotate_left
          · intro w hSw; (try dsimp only at hSw); go_simp; try with_reducible rfl
          try simp only [Act.put, List.setIfInBounds_toArray, List.set_cons_zero, List.set_cons_succ]
          refine J.J_one (i := 8) (by rfl) (by decide) (by kernel_rfl) (fun KK hK => ?_)
          go_simp
          refine (net_state (HN.out.new ((Upd.refl [] wr).drew)) H2.out (OKS.out _ H2.out).wf).mono ?_
          rintro e w4 ⟨r4, k4, rfl, ho4, hn4, hu4⟩
          have A4 := hid (rowAt_own ho4)
          have N4 := hid hn4
          have F4 := hid (show Far B Z wr w4 from Far.of_nil (((Upd.refl [] wr).drew).trans hu4 (fun x hx => by cases hx)))
          clear ho4 hn4 hu4
          go_simp
          have HS4 := KEEQ.out _ F4.out
          refine hK.out _ _ HS4 ?_
          clear hK KK HS
          try simp only [List.setIfInBounds_toArray]
          refine J.J_one (i := 9) (by rfl) (by decide) (by kernel_rfl) (fun KK hK => ?_)
          go_simp
          refine (net_merge N4.out H1.out (by have := F4.out.size; have := HBR.out; omega) (OKS.out _ H1.out).wf (by rw [(OKS.out _ H1.out).me]; have := H1.out; omega) (some ⟨r4, 0, none⟩) (s r2).rows (s r2).rows.length k4 rfl (OKS.out _ H2.out).wf.told A4.out (fun x o e => by cases e; simp)).mono ?_
          rintro e w5 ⟨rfl, hn5, hf5⟩
          have N5 := hid (hn5.drop (Z' := Z) (fun z hz => List.mem_cons_of_mem _ hz))
          have F5 := hid (F4.out.trans (hf5.mono (Z' := Z) (fun z hz => List.mem_cons_of_mem _ hz)))
          have I5 := hid (show I (t0 + j + 1) (upf s r1 (gmerge (s r1) (s r2).rows)) from HIM.out _ _ _ _ HI.out H1.out H2.out)
          clear hn5 hf5
          go_simp
          have HS5 := KEEQ.out _ F5.out
          refine hK.out _ _ HS5 ?_
          clear hK KK HS4
          try simp only [List.setIfInBounds_toArray]
          refine J.J_last (by rfl) (by kernel_rfl) (by kernel_rfl) ?_
          go_simp
          go_wp2_with fail
          go_roundg (m - (j + 1))
          case measure => have := Hd.out; omega
          case rel => exact ⟨j + 1, _, by go_num, by omega, hid (by omega), N5, I5, hid (HF.out.trans F5.out)⟩
    · go_wp2_with fail
      go_ret
      have e : j = m := by omega
      exact ⟨rfl, s, HN.out, by rw [HMM.out, ← e]; exact HI.out, HF.out⟩
end Go.Proofs.Ytgkjkgooonicbaa.Gs
