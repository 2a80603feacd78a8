/- Gossip: what is known once all have been heard; the walk of the statement GossipJoin. -/
import Derived.Test.YtgkjkgooonicbaaGw
namespace Go.Proofs.Ytgkjkgooonicbaa.Gs
open Go Go.RowKit Go.Proofs.Ytgkjkgooonicbaa Go.Proofs.Ytgkjkgooonicbaa.K Go.Proofs.Ytgkjkgooonicbaa.M Go.Proofs.Ytgkjkgooonicbaa.O Go.Proofs.Ytgkjkgooonicbaa.R

def key (r : Row) : Nat := r.turn * 4 + r.says
theorem newer_key {x r : Row} (hx : x.says ≤ 3) (hr : r.says ≤ 3) : newer x r = true ↔ key x < key r := by
  unfold newer key
  rw [decide_eq_true_iff]
  omega
theorem row_ext {x y : Row} (hn : x.node = y.node) (hk : key x = key y) (hx : x.says ≤ 3) (hy : y.says ≤ 3) : x = y := by
  unfold key at hk
  cases x; cases y
  simp only [Row.mk.injEq] at *
  omega
theorem WF.says {l : List Row} (h : WF l) (i : Nat) : (l.getD i noRow).says ≤ 3 := by
  by_cases c : i < l.length
  · exact (h.2.2 i c).2.2.2.2
  · rw [List.getD_eq_getElem?_getD, List.getElem?_eq_none (by omega)]
    simp [noRow]
def e8 : Row := ⟨8, 0, 1⟩
/-- The rows of a node 8 that has heard of the nodes 1 to 4. -/
def Tail (l : List Row) : Prop := l.length = 5 ∧ Pre 4 l ∧ l.getD 4 noRow = e8
theorem rmerge_first {r : List Row} (hr : Full 4 r) : ∀ m, m ≤ 4 → rmerge 8 [e8] (r.take m) = r.take m ++ [e8]
  | 0, _ => rfl
  | m + 1, hm => by
    have ih := rmerge_first hr m (by omega)
    have hml : m < r.length := by rw [hr.1]; omega
    have htl : (r.take m).length = m := by simp; omega
    have e : Gs.rmerge 8 [e8] (r.take (m + 1)) = Gs.rput 8 (Gs.rmerge 8 [e8] (r.take m)) (r.getD m noRow) := by
      unfold Gs.rmerge
      rw [List.take_add_one, List.foldl_append, List.getD_eq_getElem?_getD, List.getElem?_eq_getElem hml]
      rfl
    have g1 : ∀ j, j < m → ((r.take m ++ [e8]).getD j noRow) = r.getD j noRow := fun j hj => by
      rw [List.getD_eq_getElem?_getD, List.getElem?_append_left (by omega), List.getElem?_take_of_lt hj, ← List.getD_eq_getElem?_getD]
    have g2 : (r.take m ++ [e8]).getD m noRow = e8 := by
      rw [List.getD_eq_getElem?_getD, List.getElem?_append_right (by omega), htl]
      simp
    have hn : (r.getD m noRow).node = m + 1 := hr.2 m (by omega)
    have hpos : posOf (r.take m ++ [e8]) (m + 1) = m := posOf_eq _ _ m (by simp; omega) (fun j hj => by rw [g1 j hj, hr.2 j (by omega)]; omega) (fun _ => by rw [g2]; simp only [e8]; omega)
    have hhas : hasRow (r.take m ++ [e8]) (m + 1) = false := by
      rw [Bool.eq_false_iff]
      intro q
      have := (hasRow_iff.1 q).2
      rw [hpos, g2] at this
      simp only [e8] at this
      omega
    rw [e, ih]
    unfold rput
    rw [hn, hhas, if_neg (by simp), hpos]
    unfold insAt
    have e2 : r.take (m + 1) = r.take m ++ [r.getD m noRow] := by
      rw [List.take_add_one, List.getD_eq_getElem?_getD, List.getElem?_eq_getElem hml]
      rfl
    rw [List.take_left' htl, List.drop_left' htl, e2, List.append_assoc]
    rfl
theorem tail_of {r : List Row} (hr : Full 4 r) : Tail (r ++ [e8]) ∧ ∀ i, i < 4 → (r ++ [e8]).getD i noRow = r.getD i noRow := by
  have g1 : ∀ j, j < 4 → ((r ++ [e8]).getD j noRow) = r.getD j noRow := fun j hj => by
    rw [List.getD_eq_getElem?_getD, List.getElem?_append_left (by rw [hr.1]; exact hj), ← List.getD_eq_getElem?_getD]
  refine ⟨⟨by simp [hr.1], ⟨by simp [hr.1], fun k hk => by rw [g1 k hk]; exact hr.2 k hk⟩, ?_⟩, g1⟩
  rw [List.getD_eq_getElem?_getD, List.getElem?_append_right (by rw [hr.1]; exact Nat.le_refl _), hr.1]
  simp
theorem comb_key {x r : Row} (hx : x.says ≤ 3) (hr : r.says ≤ 3) (hn : r.node ≠ 8) : (comb 8 x r = x ∨ comb 8 x r = r) ∧ key x ≤ key (comb 8 x r) ∧ key r ≤ key (comb 8 x r) := by
  unfold comb
  rw [if_neg hn]
  split
  · rename_i h
    have := (newer_key hx hr).1 h
    exact ⟨.inr rfl, by omega, Nat.le_refl _⟩
  · rename_i h
    have : ¬ key x < key r := fun q => h ((newer_key hx hr).2 q)
    exact ⟨.inl rfl, Nat.le_refl _, by omega⟩
/-- Node 8 that has heard some of the nodes 1 to 4. -/
structure Hd (s0 : Nat → G) (ne : Prop) (H : Nat → Prop) (x : G) : Prop where
  me : x.me = 8
  wf : WF x.rows
  z : ¬ ne → x.rows = [e8]
  t : ne → Tail x.rows ∧ ∀ i, i < 4 → ∃ m, m < 4 ∧ x.rows.getD i noRow = (s0 m).rows.getD i noRow
  h : ∀ m, H m → ne ∧ ∀ i, i < 4 → key ((s0 m).rows.getD i noRow) ≤ key (x.rows.getD i noRow)
theorem Hd.hear {s0 : Nat → G} {ne : Prop} {H : Nat → Prop} {x : G} (hx : Hd s0 ne H x) (hok : ∀ i, i < 4 → Ok 4 i (s0 i)) {m : Nat} (hm : m < 4) : Hd s0 True (fun j => H j ∨ j = m) (gmerge x (s0 m).rows) := by
  have ho := hok m hm
  obtain ⟨g1, g2, -⟩ := gmerge_rmerge (s0 m).rows x
  have w := (hx.wf.gmerge (by rw [hx.me]; decide) (s0 m).rows ho.wf.2.2).1
  by_cases c : ne
  · obtain ⟨⟨t1, t2, t3⟩, t4⟩ := hx.t c
    obtain ⟨m1, m2, m3⟩ := t2.merged ho.full x.me
    have ck : ∀ i, i < 4 → _ := fun i hi => comb_key (hx.wf.says i) (ho.wf.says i) (by rw [ho.full.2 i hi]; omega)
    have er : ∀ i, i < 4 → (gmerge x (s0 m).rows).rows.getD i noRow = comb 8 (x.rows.getD i noRow) ((s0 m).rows.getD i noRow) := fun i hi => by
      rw [g1, m3 i, if_pos hi, hx.me]
    refine ⟨g2.trans hx.me, w, fun q => absurd trivial q, fun _ => ⟨⟨by rw [g1, m1]; exact t1, by rw [g1]; exact m2, by rw [g1, m3 4, if_neg (by decide)]; exact t3⟩, fun i hi => ?_⟩, fun j hj => ⟨trivial, fun i hi => ?_⟩⟩
    · rw [er i hi]
      rcases (ck i hi).1 with q | q
      · rw [q]; exact t4 i hi
      · rw [q]; exact ⟨m, hm, rfl⟩
    · rw [er i hi]
      rcases hj with q | q
      · exact Nat.le_trans ((hx.h j q).2 i hi) (ck i hi).2.1
      · subst q; exact (ck i hi).2.2
  · have hz := hx.z c
    have e : (gmerge x (s0 m).rows).rows = (s0 m).rows ++ [e8] := by
      rw [g1, hx.me, hz]
      have := rmerge_first ho.full 4 (Nat.le_refl _)
      rw [List.take_of_length_le (by rw [ho.full.1]; exact Nat.le_refl _)] at this
      exact this
    obtain ⟨t1, t2⟩ := tail_of ho.full
    refine ⟨g2.trans hx.me, w, fun q => absurd trivial q, fun _ => ⟨by rw [e]; exact t1, fun i hi => ⟨m, hm, by rw [e]; exact t2 i hi⟩⟩, fun j hj => ⟨trivial, fun i hi => ?_⟩⟩
    rcases hj with q | q
    · exact absurd (hx.h j q).1 c
    · subst q
      rw [e, t2 i hi]
      exact Nat.le_refl _
theorem Hd.weak {s0 : Nat → G} {ne ne' : Prop} {H H' : Nat → Prop} {x : G} (hx : Hd s0 ne H x) (hn : ne ↔ ne') (hH : ∀ m, H' m → H m) : Hd s0 ne' H' x :=
  ⟨hx.me, hx.wf, fun q => hx.z (fun p => q (hn.1 p)), fun q => hx.t (hn.2 q), fun m q => ⟨hn.1 (hx.h m (hH m q)).1, (hx.h m (hH m q)).2⟩⟩
/-- Two that have heard all know the same. -/
theorem Hd.same {s0 : Nat → G} {x y : G} {H H' : Nat → Prop} (hx : Hd s0 True H x) (hy : Hd s0 True H' y) (h1 : ∀ m, m < 4 → H m) (h2 : ∀ m, m < 4 → H' m) : x.rows = y.rows := by
  obtain ⟨⟨a1, a2, a3⟩, a4⟩ := hx.t trivial
  obtain ⟨⟨b1, b2, b3⟩, b4⟩ := hy.t trivial
  refine List.ext_getElem (by rw [a1, b1]) (fun i i1 i2 => ?_)
  have e : x.rows.getD i noRow = y.rows.getD i noRow := by
    by_cases c : i < 4
    · obtain ⟨m, hm, q1⟩ := a4 i c
      obtain ⟨m', hm', q2⟩ := b4 i c
      have k1 := (hx.h m' (h1 m' hm')).2 i c
      have k2 := (hy.h m (h2 m hm)).2 i c
      rw [← q2] at k1
      rw [← q1] at k2
      exact row_ext (by rw [a2.2 i c, b2.2 i c]) (by omega) (hx.wf.says i) (hy.wf.says i)
    · have : i = 4 := by rw [a1] at i1; omega
      rw [this, a3, b3]
  rw [List.getD_eq_getElem?_getD, List.getD_eq_getElem?_getD, List.getElem?_eq_getElem i1, List.getElem?_eq_getElem i2] at e
  exact e
/-- A node that hears itself. -/
theorem rput_self {l : List Row} (h : Sorted l) (me : Nat) {i : Nat} (hi : i < l.length) : rput me l (l.getD i noRow) = l := by
  have hpos : posOf l (l.getD i noRow).node = i := posOf_eq l _ i (by omega) (fun k hk => h k i hk hi) (fun _ => Nat.le_refl _)
  unfold rput
  rw [if_pos (hasRow_iff.2 ⟨by rw [hpos]; exact hi, by rw [hpos]⟩), hpos, if_neg (by simp [newer])]
theorem rmerge_self {l : List Row} (h : Sorted l) (me : Nat) : rmerge me l l = l := by
  have : ∀ m, m ≤ l.length → rmerge me l (l.take m) = l := fun m => by
    induction m with
    | zero => intro _; rfl
    | succ m ih =>
      intro hm
      have hml : m < l.length := by omega
      have e : Gs.rmerge me l (l.take (m + 1)) = Gs.rput me (Gs.rmerge me l (l.take m)) (l.getD m noRow) := by
        unfold Gs.rmerge
        rw [List.take_add_one, List.foldl_append, List.getD_eq_getElem?_getD, List.getElem?_eq_getElem hml]
        rfl
      rw [e, ih (by omega)]
      exact rput_self h me hml
  have := this l.length (Nat.le_refl _)
  rwa [List.take_length] at this
theorem ok_upf {n i0 : Nat} {s : Nat → G} (h : ∀ i, i < n → Ok n i (s i)) {s' : G} (hs : Ok n i0 s') : ∀ i, i < n → Ok n i (upf s i0 s' i) := fun i hi => by
  by_cases e : i = i0
  · subst e; rw [upf_at]; exact hs
  · rw [upf_ne _ _ _ _ e]; exact h i hi
theorem ptrs_ext (g g' : Nat → Nat) (n : Nat) (h : ∀ i, i < n → g' i = g i) : ptrs g' n = ptrs g n :=
  List.map_congr_left (fun i hi => by rw [h i (List.mem_range.1 hi)])
/-- The two that hear, at round kk. -/
structure JI (kk : Nat) (s0 s : Nat → G) : Prop where
  same : ∀ i, i < 4 → s i = s0 i
  a : Hd s0 (0 < kk) (fun m => m < kk) (s 4)
  b : Hd s0 (0 < kk) (fun m => m < 4 ∧ 3 - m < kk) (s 5)
theorem JI.step {kk u : Nat} {s0 s : Nat → G} (h : JI kk s0 s) (hok : ∀ i, i < 4 → Ok 4 i (s0 i)) (hk : kk < 4) (hu : u = 3 - kk) : JI (kk + 1) s0 (upf (upf s 4 (gmerge (s 4) (s0 kk).rows)) 5 (gmerge (s 5) (s0 u).rows)) := by
  refine ⟨fun i hi => by rw [upf_ne _ _ _ _ (by omega), upf_ne _ _ _ _ (by omega)]; exact h.same i hi, ?_, ?_⟩
  · rw [upf_ne _ _ _ _ (by decide), upf_at]
    exact (h.a.hear hok hk).weak ⟨fun _ => by omega, fun _ => trivial⟩ (fun m hm => by omega)
  · rw [upf_at]
    exact (h.b.hear hok (m := u) (by omega)).weak ⟨fun _ => by omega, fun _ => trivial⟩ (fun m hm => by omega)
theorem JI.again {kk m : Nat} {s0 s : Nat → G} (h : JI kk s0 s) (hok : ∀ i, i < 4 → Ok 4 i (s0 i)) (hk : 0 < kk) (hm : m < 4) : JI kk s0 (upf s 5 (gmerge (s 5) (s0 m).rows)) := by
  refine ⟨fun i hi => by rw [upf_ne _ _ _ _ (by omega)]; exact h.same i hi, ?_, ?_⟩
  · rw [upf_ne _ _ _ _ (by decide)]
    exact h.a
  · rw [upf_at]
    exact (h.b.hear hok hm).weak ⟨fun _ => hk, fun _ => trivial⟩ (fun j hj => .inl hj)

set_option maxHeartbeats 16000000 in
set_option maxRecDepth 100000 in
theorem join_walk (a : Option Addr) (len cap : Nat) (b : Int) (xs : List Int) (w : World) (hx : IntRow w a xs) (hl : xs.length = len) (hlc : len ≤ cap) (hc : cap ≤ 9223372036854775807) :
    Calls Try.prog 9 #[.slice a len cap, .int .i64 b] w fun e w' => e = .returned (.bool true) ∧ Upd [] w w' := by
  have HX := hid hx
  have HL := hid hl
  have HLC := hid hlc
  have HC := hid hc
  clear hx hl hlc hc
  go_enter Try.func9, Try.ntmps9
  go_wp2_with fail
  refine (begun_true w).mono ?_
  rintro e w1 ⟨rfl, hu⟩
  have U1 := hid hu
  clear hu
  have GA := hid (gossips_any 4 5 w1 (by decide) (by decide) (by omega) (by omega))
  go_wp2_with fail
  refine GA.out.mono ?_
  rintro e w2 ⟨v, g, s, rfl, ho, hn, hb, hu⟩
  obtain ⟨q, k, e, -⟩ := ptr_at ho (i := 0) (by decide)
  subst e
  obtain ⟨B, hB⟩ : ∃ B, B = w1.heap.size := ⟨_, rfl⟩
  rw [← hB] at ho hn
  have U2 := hid (U1.out.trans hu (fun x hx => by cases hx))
  have hBw2 : B ≤ w2.heap.size := by rw [hB]; exact hu.size
  have HBW := hid hBw2
  have HWB := hid (show w.heap.size ≤ B by rw [hB]; exact U1.out.size)
  have CH := hid (chatter_any (by decide) (by decide) (fun _ s => ∀ i, i < 4 → Ok 4 i (s i)) (fun _ _ h => h) (fun _ _ h => h) (fun _ _ _ _ h hi hk hki _ => ok_upf h ((h _ hi).dbt hk hki)) (fun _ _ _ h hi => ok_upf h (h _ hi).tck.1) (fun _ _ _ _ h hi hj => ok_upf h ((h _ hi).merge hi (by decide) (h _ hj).wf (h _ hj).full)) (t0 := 0) hn (fun i hi => Ok.begun (hb i hi) hi (by decide) (by decide) (by decide)) hBw2 (q := q) (k := k) (by simp [Value.ownBlock]) ho (a := a) (len := len) (cap := cap) (xs := xs) (fun wz f => HX.out.upd (f.upd_le HWB.out U2.out)) HL.out HLC.out HC.out)
  have HO := hid ho
  clear ho hn hb hu GA hB hBw2
  go_wp2_with fail
  refine CH.out.mono ?_
  rintro e w3 ⟨rfl, s0, hn3, ok3, f3⟩
  have N3 := hid hn3
  have OK0 := hid ok3
  have F3 := hid f3
  have O3 := hid (f3.own HO.out (fun x hx => by simp [Value.ownBlock] at hx; subst hx; simp [Value.ownBlock]))
  have B3 := hid (show B ≤ w3.heap.size by have := f3.size; have := HBW.out; omega)
  clear hn3 ok3 f3 CH HO
  have NW := hid (fun wz => new_any 8 5 wz (by decide) (by decide) (by decide) (by decide))
  go_wp2_with fail
  refine (NW.out w3).mono ?_
  rintro e w4 ⟨Fa, ga, rfl, ha, ua, fa⟩
  have N4 := hid (N3.out.add ua B3.out ha fa)
  have U4 := hid ua
  have B4 := hid (show B ≤ w4.heap.size by have := ua.size; have := B3.out; omega)
  clear ha ua fa
  go_wp2_with fail
  refine (NW.out w4).mono ?_
  rintro e w5 ⟨Fb, gb, rfl, ha, ua, fa⟩
  have N5 := hid (N4.out.add ua B4.out ha fa)
  have U5 := hid (U4.out.trans ua (fun x hx => by cases hx))
  have B5 := hid (show B ≤ w5.heap.size by have := ua.size; have := B4.out; omega)
  clear ha ua fa NW
  obtain ⟨g', hg'⟩ : ∃ g', g' = upf (upf g 4 ga) 5 gb := ⟨_, rfl⟩
  obtain ⟨s', hs'⟩ : ∃ s', s' = upf (upf s0 4 (gnew 8 5)) 5 (gnew 8 5) := ⟨_, rfl⟩
  rw [← hg', ← hs'] at N5
  have G4 := hid (show g' 4 = ga by rw [hg', upf_ne _ _ _ _ (by decide), upf_at])
  have G5 := hid (show g' 5 = gb by rw [hg', upf_at])
  have O5 := hid (show w5.ownsRow B 55 1 (.slice (some ⟨q, 0, none⟩) 4 k) 4 (ptrs g' 4) by
    rw [ptrs_ext g g' 4 (fun i hi => by rw [hg', upf_ne _ _ _ _ (by omega), upf_ne _ _ _ _ (by omega)])]
    exact own_new O3.out U5.out)
  have J0 := hid (show JI 0 s0 s' from by
    have hz : ∀ (H : Nat → Prop), (∀ m, ¬ H m) → Hd s0 (0 < 0) H (gnew 8 5) := fun H hH => ⟨rfl, gnew_wf 8 5 (by decide) (by decide), fun _ => rfl, fun h => absurd h (by decide), fun m hm => absurd hm (hH m)⟩
    refine ⟨fun i hi => by rw [hs', upf_ne _ _ _ _ (by omega), upf_ne _ _ _ _ (by omega)], ?_, ?_⟩
    · rw [hs', upf_ne _ _ _ _ (by decide), upf_at]
      exact hz _ (fun m hm => by omega)
    · rw [hs', upf_at]
      exact hz _ (fun m hm => by omega))
  rw [← G4.out, ← G5.out]
  have F5 := hid (F3.out.trans (Far.of_nil U5.out))
  clear hg' hs' N3 N4 O3 F3 G4 G5 U5 U4 B3 B4
  go_wp2_with fail
  go_loopg [42] 4 (fun d v42 wr => ∃ (kk : Nat) (s : Nat → G), v42 = .int .i64 (kk : Int) ∧ kk ≤ 4 ∧ Hid (kk + d = 4) ∧ Hid (Net B [q] 6 wr g' s) ∧ Hid (JI kk s0 s) ∧ Hid (Far B [q] w5 wr))
  case atStart => exact ⟨0, s', rfl, by omega, hid (by omega), N5, J0, hid (Far.refl _ _ _)⟩
  case round =>
    clear N5 J0
    obtain ⟨kk, s, rfl, hk, Hd, HN, HJ, HF⟩ := hrel
    have HBR := hid (show B ≤ wr.heap.size by have := HF.out.size; have := B5.out; omega)
    by_cases hk4 : kk < 4
    · have hk' : (kk : Int) < 4 := by omega
      obtain ⟨u, hu⟩ : ∃ u, u = 3 - kk := ⟨_, rfl⟩
      have hwu : IntKind.i64.wrap (3 - (kk : Int)) = (u : Int) := by rw [IntWalk.i64_in _ (by omega)]; omega
      have hu4 : (u : Int) < 4 := by omega
      have OW := hid (HF.out.own O5.out (fun x hx => by simp [Value.ownBlock] at hx; simp [hx]))
      obtain ⟨q', k', e, c1⟩ := ptr_at OW.out hk4
      cases e
      obtain ⟨q', k', e, c2⟩ := ptr_at OW.out (i := u) (by omega)
      cases e
      have HU := hid hu
      have HK4 := hid hk4
      clear hu hk4
      go_upto_region 13 with (fail)
      go_quiet (fail)
      have ES := hid (show s kk = s0 kk from HJ.out.same kk HK4.out)
      have EU := hid (show s u = s0 u from HJ.out.same u (by have := HU.out; omega))
      have WK := hid (show WF (s kk).rows by rw [ES.out]; exact (OK0.out kk HK4.out).wf)
      have WU := hid (show WF (s u).rows by rw [EU.out]; exact (OK0.out u (by have := HU.out; omega)).wf)
      have HD := hid (show Upd [] wr (wr.drewN nq) from (Upd.refl [] wr).drewN nq)
      have k6 := hid (show kk < 6 by have := HK4.out; omega)
      have u6' := hid (show u < 6 by have := HU.out; omega)
      clear hk' hu4 hwu c1 c2
      go_wp2_with fail
      refine (net_state (HN.out.new HD.out) k6.out WK.out).mono ?_
      rintro e w6 ⟨r6, k6', rfl, ho6, hn6, hu6⟩
      have A6 := hid (rowAt_own ho6)
      have N6 := hid hn6
      have F6 := hid (show Far B [q] wr w6 from Far.of_nil (HD.out.trans hu6 (fun x hx => by cases hx)))
      clear ho6 hn6 hu6
      go_wp2_with fail
      refine (net_merge N6.out (i := 4) (by decide) (by have := F6.out.size; have := HBR.out; omega) HJ.out.a.wf (by rw [HJ.out.a.me]; decide) (some ⟨r6, 0, none⟩) (s kk).rows (s kk).rows.length k6' rfl WK.out.told A6.out (fun x o e => by cases e; simp)).mono ?_
      rintro e w7 ⟨rfl, hn7, hf7⟩
      obtain ⟨s7, hs7⟩ : ∃ s7, s7 = upf s 4 (gmerge (s 4) (s kk).rows) := ⟨_, rfl⟩
      rw [← hs7] at hn7
      have S7 := hid hs7
      have N7 := hid (hn7.drop (Z' := [q]) (fun z hz => by simp at hz; simp [hz]))
      have F7 := hid (F6.out.trans (hf7.mono (Z' := [q]) (fun z hz => by simp at hz; simp [hz])))
      have E7u := hid (show s7 u = s u by rw [hs7, upf_ne _ _ _ _ (by have := HU.out; omega)])
      have E75 := hid (show s7 5 = s 5 by rw [hs7, upf_ne _ _ _ _ (by decide)])
      clear hn7 hf7 hs7
      go_wp2_with fail
      refine (net_state N7.out u6'.out (by rw [E7u.out]; exact WU.out)).mono ?_
      rintro e w8 ⟨r8, k8', rfl, ho8, hn8, hu8⟩
      have A8 := hid (rowAt_own ho8)
      have N8 := hid hn8
      have F8 := hid (F7.out.trans (show Far B [q] w7 w8 from Far.of_nil hu8))
      clear ho8 hn8 hu8
      go_wp2_with fail
      refine (net_merge N8.out (i := 5) (by decide) (by have := F8.out.size; have := HBR.out; omega) (by rw [E75.out]; exact HJ.out.b.wf) (by rw [E75.out, HJ.out.b.me]; decide) (some ⟨r8, 0, none⟩) (s7 u).rows (s7 u).rows.length k8' rfl (by rw [E7u.out]; exact WU.out.told) A8.out (fun x o e => by cases e; simp)).mono ?_
      rintro e w9 ⟨rfl, hn9, hf9⟩
      obtain ⟨s9, hs9⟩ : ∃ s9, s9 = upf s7 5 (gmerge (s7 5) (s7 u).rows) := ⟨_, rfl⟩
      rw [← hs9] at hn9
      have J9 := hid (show JI (kk + 1) s0 s9 by
        rw [hs9, E75.out, E7u.out, S7.out, EU.out, ES.out]
        exact HJ.out.step OK0.out HK4.out HU.out)
      have N9 := hid (hn9.drop (Z' := [q]) (fun z hz => by simp at hz; simp [hz]))
      have F9 := hid (F8.out.trans (hf9.mono (Z' := [q]) (fun z hz => by simp at hz; simp [hz])))
      clear hn9 hf9 hs9 N7 N8 N6
      go_wp2_with fail
      refine (rest_some b 4 w9 (by decide) (by decide)).mono ?_
      rintro e w' ⟨r, hr, -, rfl, rfl⟩
      have OX := hid (F9.out.own OW.out (fun x hx => by simp [Value.ownBlock] at hx; simp [hx]))
      obtain ⟨q', k', e, c3⟩ := ptr_at OX.out HK4.out
      cases e
      have hk4 : (kk : Int) < 4 := by have := HK4.out; omega
      by_cases hrk : kk = r
      · have brk : ((kk : Int) == (r : Int)) = true := by rw [beq_iff_eq]; omega
        have WK9 := hid (show WF (s9 kk).rows by rw [J9.out.same kk HK4.out]; exact (OK0.out kk HK4.out).wf)
        clear hrk
        go_wp2_with fail
        refine (net_state N9.out k6.out WK9.out).mono ?_
        rintro e wa ⟨ra, ka', rfl, hoa, hna, hua⟩
        have Aa := hid (rowAt_own hoa)
        have Na := hid hna
        have Fa := hid (F9.out.trans (show Far B [q] w9 wa from Far.of_nil hua))
        clear hoa hna hua
        go_wp2_with fail
        refine (net_merge Na.out (i := 5) (by decide) (by have := Fa.out.size; have := HBR.out; omega) J9.out.b.wf (by rw [J9.out.b.me]; decide) (some ⟨ra, 0, none⟩) (s9 kk).rows (s9 kk).rows.length ka' rfl WK9.out.told Aa.out (fun x o e => by cases e; simp)).mono ?_
        rintro e wb ⟨rfl, hnb, hfb⟩
        obtain ⟨sb, hsb⟩ : ∃ sb, sb = upf s9 5 (gmerge (s9 5) (s9 kk).rows) := ⟨_, rfl⟩
        rw [← hsb] at hnb
        have Jb := hid (show JI (kk + 1) s0 sb by
          rw [hsb, J9.out.same kk HK4.out]
          exact J9.out.again OK0.out (by omega) HK4.out)
        have Nb := hid (hnb.drop (Z' := [q]) (fun z hz => by simp at hz; simp [hz]))
        have Fb := hid (Fa.out.trans (hfb.mono (Z' := [q]) (fun z hz => by simp at hz; simp [hz])))
        clear hnb hfb hsb
        go_wp2_with fail
        go_roundg (4 - (kk + 1))
        case measure => have := Hd.out; have := HK4.out; omega
        case rel => exact ⟨kk + 1, sb, by go_num, by have := HK4.out; omega, hid (by have := HK4.out; omega), Nb, Jb, hid (HF.out.trans Fb.out)⟩
      · have brk : ((kk : Int) == (r : Int)) = false := by rw [beq_eq_false_iff_ne]; omega
        clear hrk
        go_wp2_with fail
        go_roundg (4 - (kk + 1))
        case measure => have := Hd.out; have := HK4.out; omega
        case rel => exact ⟨kk + 1, s9, by go_num, by have := HK4.out; omega, hid (by have := HK4.out; omega), N9, J9, hid (HF.out.trans F9.out)⟩
    · have hk' : ¬ (kk : Int) < 4 := by omega
      have ek : kk = 4 := by omega
      subst ek
      have WA := hid HJ.out.a.wf
      have WB := hid HJ.out.b.wf
      go_wp2_with fail
      refine (net_state HN.out (i := 4) (by decide) WA.out).mono ?_
      rintro e w6 ⟨r6, k6', rfl, ho6, hn6, hu6⟩
      have A6 := hid (rowAt_own ho6)
      have N6 := hid hn6
      have F6 := hid (show Far B [q] wr w6 from Far.of_nil hu6)
      clear ho6 hn6 hu6
      go_wp2_with fail
      refine (net_merge N6.out (i := 4) (by decide) (by have := F6.out.size; have := HBR.out; omega) WA.out (by rw [HJ.out.a.me]; decide) (some ⟨r6, 0, none⟩) (s 4).rows (s 4).rows.length k6' rfl WA.out.told A6.out (fun x o e => by cases e; simp)).mono ?_
      rintro e w7 ⟨rfl, hn7, hf7⟩
      obtain ⟨s7, hs7⟩ : ∃ s7, s7 = upf s 4 (gmerge (s 4) (s 4).rows) := ⟨_, rfl⟩
      rw [← hs7] at hn7
      have R74 := hid (show (s7 4).rows = (s 4).rows by rw [hs7, upf_at, (gmerge_rmerge _ _).1]; exact rmerge_self WA.out.1 _)
      have R75 := hid (show (s7 5).rows = (s 5).rows by rw [hs7, upf_ne _ _ _ _ (by decide)])
      have N7 := hid (hn7.drop (Z' := [q]) (fun z hz => by simp at hz; simp [hz]))
      have F7 := hid (F6.out.trans (hf7.mono (Z' := [q]) (fun z hz => by simp at hz; simp [hz])))
      clear hn7 hf7 hs7
      go_wp2_with fail
      refine (net_state N7.out (i := 4) (by decide) (by rw [R74.out]; exact WA.out)).mono ?_
      rintro e w8 ⟨r8, k8, rfl, ho8, hn8, hu8⟩
      have A8 := hid (rowAt_own ho8)
      have N8 := hid (hn8.drop (Z' := [q]) (fun z hz => by simp at hz; simp [hz]))
      have F8 := hid (F7.out.trans (show Far B [q] w7 w8 from Far.of_nil hu8))
      clear ho8 hn8 hu8
      go_wp2_with fail
      refine (net_state N8.out (i := 5) (by decide) (by rw [R75.out]; exact WB.out)).mono ?_
      rintro e w9 ⟨r9, k9, rfl, ho9, hn9, hu9⟩
      have A9 := hid (rowAt_own ho9)
      have A89 := hid (A8.out.upd hu9 (fun _ _ _ h => by cases h))
      have F9 := hid (F8.out.trans (show Far B [q] w8 w9 from Far.of_nil hu9))
      clear ho9 hn9 hu9
      go_wp2_with fail
      refine (eq_rows (some ⟨r8, 0, none⟩) (some ⟨r9, 0, none⟩) (s7 4).rows (s7 5).rows (s7 4).rows.length (s7 5).rows.length k8 k9 rfl rfl A89.out A9.out (by rw [R74.out]; have := WA.out.len; omega) (by rw [R75.out]; have := WB.out.len; omega)).mono ?_
      rintro e wc ⟨rfl, huc⟩
      have E9 := hid (show decide ((s7 4).rows = (s7 5).rows) = true by
        rw [R74.out, R75.out, decide_eq_true_iff]
        exact (HJ.out.a.weak (ne' := True) ⟨fun _ => trivial, fun _ => by decide⟩ (fun m h => h)).same (HJ.out.b.weak (ne' := True) ⟨fun _ => trivial, fun _ => by decide⟩ (fun m h => h)) (fun m hm => hm) (fun m hm => ⟨hm, by omega⟩))
      rw [E9.out]
      have HUC := hid huc
      clear huc
      go_wp2_with fail
      go_ret
      exact ⟨rfl, (((F5.out.trans HF.out).trans F9.out).upd_le HWB.out U2.out).trans HUC.out (fun x hx => by cases hx)⟩
end Go.Proofs.Ytgkjkgooonicbaa.Gs
