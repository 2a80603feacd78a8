/- A world of weights: Come of a weight. -/
import Derived.Test.YtmdhhembkmkfdaaWc
import Derived.Deep.Cut
namespace Go.Proofs.Ytmdhhembkmkfdaa.Wt
open Go Go.RowKit Go.Proofs.Ytmdhhembkmkfdaa.K Go.Proofs.Ytmdhhembkmkfdaa.M Go.Proofs.Ytmdhhembkmkfdaa.O

theorem thingCells_set : ∀ (l : List Thing) (i : Nat) (o : Nat) (b : Bool), i < l.length → ((thingCells l).set (i * 3 + 1) (.int .i64 (o : Int))).set (i * 3 + 2) (.bool b) = thingCells (l.set i ⟨(l.getD i noThing).home, o, b⟩)
  | [], _, _, _, h => by simp at h
  | x :: l, 0, o, b, _ => by simp [thingCells, thingVals]
  | x :: l, i + 1, o, b, h => by
    have ih := thingCells_set l i o b (by simpa using h)
    simp only [thingCells, thingVals, List.flatMap_cons, List.set_cons_succ, List.getD_cons_succ] at ih ⊢
    rw [show (i + 1) * 3 + 1 = i * 3 + 1 + 3 by omega, show (i + 1) * 3 + 2 = i * 3 + 2 + 3 by omega]
    simp only [List.cons_append, List.nil_append, List.set_cons_succ]
    rw [ih]
theorem thingCells_len : ∀ l : List Thing, (thingCells l).length = l.length * 3
  | [] => rfl
  | x :: l => by have := thingCells_len l; simp only [thingCells, List.flatMap_cons, List.length_append, List.length_cons] at this ⊢; simp only [thingVals, List.length_cons, List.length_nil]; omega
/-- A thing's weight and whether it is free, set. -/
theorem IsW.thing_set {w : World} {B g : Nat} {s : Wd} {v2 v3 : Value} {bs : List Nat} {g1 k1 : Nat} (h : IsW w B g s (.slice (some ⟨g1, 0, none⟩) s.things.length k1) v2 v3 bs) {t : Nat} (ht : t < s.things.length) (o : Nat) (b : Bool) :
    IsW ((w.setCell ⟨g1, t * 3 + 1, none⟩ (.int .i64 (o : Int))).setCell ⟨g1, t * 3 + 2, none⟩ (.bool b)) B g { s with things := s.things.set t ⟨(s.things.getD t noThing).home, o, b⟩ } (.slice (some ⟨g1, 0, none⟩) s.things.length k1) v2 v3 bs := by
  have hl := thingCells_len s.things
  have r1 := row_set h.things (i := t * 3 + 1) (by rw [hl]; omega) (.int .i64 (o : Int))
  have r2 := row_set r1 (i := t * 3 + 2) (by rw [List.length_set, hl]; omega) (.bool b)
  rw [thingCells_set s.things t o b ht] at r2
  have u : Upd [g1] w ((w.setCell ⟨g1, t * 3 + 1, none⟩ (.int .i64 (o : Int))).setCell ⟨g1, t * 3 + 2, none⟩ (.bool b)) := ((Upd.refl _ w).setCell (.inl (by simp)) _).setCell (.inl (by simp)) _
  have own : (Value.slice (some (⟨g1, 0, none⟩ : Addr)) s.things.length k1).ownBlock = some g1 := rfl
  refine ⟨u.blk h.blk (by simp; exact fun e => own_cells_ne h.things h.blk (by decide) g1 own e.symm), by rw [List.length_set]; exact r2, own_upd h.has u (fun k hk => by simpa using own_own_ne h.has h.things (by decide) k hk g1 own), own_upd h.way u (fun k hk => by simpa using own_own_ne h.way h.things (by decide) k hk g1 own), h.len, fun n hn => ?_, h.dis, h.gB⟩
  obtain ⟨h1, m, h2, h3, h4⟩ := h.maps n hn
  refine ⟨h1, HasMap.upd ⟨m, h2, h3, h4⟩ u ?_⟩
  simp only [List.mem_singleton]
  exact fun e => own_map_ne h.things h2 g1 own e.symm
/-- What Come leaves, where a weight comes home. -/
def camehome (s : Wd) (i : Nat) (x : Way) : Wd := { s with things := s.things.set x.thing ⟨(s.things.getD x.thing noThing).home, (s.things.getD x.thing noThing).out - x.wt, decide ((s.things.getD x.thing noThing).out - x.wt = 0)⟩, way := s.way.eraseIdx i }

set_option maxHeartbeats 4000000 in
set_option maxRecDepth 100000 in
theorem come_back {w : World} {B g : Nat} {s : Wd} {v1 v2 v3 : Value} {bs : List Nat} (h : IsW w B g s v1 v2 v3 bs) (i : Nat) (hi : i < s.way.length) (h60 : s.way.length ≤ 60) (to th wt : Nat) (hx : s.way.getD i noWay = ⟨to, th, wt, true⟩) (hth : th < s.things.length) (hb : wt ≤ (s.things.getD th noThing).out) (hbb2 : (s.things.getD th noThing).out ≤ 65536) :
    Calls Try.prog 49 #[.pointer (some ⟨g, 0, none⟩), .int .i64 (i : Int)] w fun e w' => e = .returned (.int .i64 0) ∧ (∃ v3', IsW w' B g (camehome s i ⟨to, th, wt, true⟩) v1 v2 v3' bs) ∧ Old B w w' := by
  obtain ⟨c0, c1, c2, c3, cf⟩ := h.c0
  obtain ⟨g3, k3, e3, y0, y1, y2, y3, l5, l6⟩ := h.wayAt hi
  rw [hx] at y0 y1 y2 y3
  simp only at y0 y1 y2 y3
  obtain ⟨n, hn⟩ : ∃ n, n = s.way.length := ⟨_, rfl⟩
  have dl := fun (w1 : World) (u : Upd [] w w1) => delete_any B v3 s.way n i w1 (by rw [hn]; exact own_new h.way u) hn (by omega) (by omega)
  have hi1 : (i : Int) < (n : Int) := by omega
  have hi2 : ¬ (n : Int) ≤ (i : Int) := by omega
  have H := hid h
  have HN := hid hn
  have DL := hid dl
  have HX := hid hx
  have HV3 := hid e3
  rw [← hn] at l5 hi h60
  rw [e3, ← hn] at c3
  clear h hn dl hx e3
  have gl := World.block_lt_of_cell? w _ c3
  simp only at gl
  go_enter Try.func49, Try.ntmps49
  go_wp2_with fail
  have ua : Upd [] w (w.alloc (.cells #[.int .i64 (to : Int), .int .i64 (th : Int), .int .i64 (wt : Int), .bool true] 92)) := (Upd.refl [] w).alloc _
  have dd := DL.out _ ua
  rw [HV3.out, ← HN.out] at dd
  refine dd.mono ?_
  rintro e w2 ⟨v', rfl, ho, hu⟩
  replace hu : Upd v3.ownBlock.toList (w.alloc (.cells #[.int .i64 (to : Int), .int .i64 (th : Int), .int .i64 (wt : Int), .bool true] 92)) w2 := by rw [HV3.out, ← HN.out]; exact hu
  have IW1 := H.out.upd ua
  have hb2 := hu.blk IW1.blk (not_mem_own (fun y hy => own_cells_ne IW1.way IW1.blk (by decide) y hy))
  have fz := blk_frozen hb2 3
  have cz := (blk_cell hb2 3).trans rfl
  have lb : w2.heap[w.heap.size]? = some (.cells #[.int .i64 (to : Int), .int .i64 (th : Int), .int .i64 (wt : Int), .bool true] 92 (0, 0)) := hu.blk (blk_new w _) (not_mem_own (fun y hy => by have := own_lt H.out.way y hy; omega))
  obtain ⟨a4, k4, e4, -, -, -⟩ := own_view ho
  subst e4
  have IW2 := IW1.way_upd (l := s.way.eraseIdx i) (by rw [List.length_eraseIdx, if_pos (by rw [← HN.out]; exact hi), ← HN.out]; exact ho) hu
  have U2 := hid hu
  obtain ⟨W3, hW3⟩ : ∃ W3, W3 = w2.setCell ⟨g, 3, none⟩ (.slice a4 (n - 1) k4) := ⟨_, rfl⟩
  rw [← hW3] at IW2
  have lb3 : W3.heap[w.heap.size]? = some (.cells #[.int .i64 (to : Int), .int .i64 (th : Int), .int .i64 (wt : Int), .bool true] 92 (0, 0)) := by rw [hW3]; exact blk_far lb (by simp only; omega) _
  have z0 : W3.cell? ⟨w.heap.size, 0, none⟩ = some (.int .i64 (to : Int)) := (blk_cell lb3 0).trans rfl
  have z1 : W3.cell? ⟨w.heap.size, 1, none⟩ = some (.int .i64 (th : Int)) := (blk_cell lb3 1).trans rfl
  have z2 : W3.cell? ⟨w.heap.size, 2, none⟩ = some (.int .i64 (wt : Int)) := (blk_cell lb3 2).trans rfl
  have z3 : W3.cell? ⟨w.heap.size, 3, none⟩ = some (.bool true) := (blk_cell lb3 3).trans rfl
  have x1 := IW2.c0.2.1
  obtain ⟨g1, k1, e1, t0, t1, t2, tf, l3, l4⟩ := IW2.thing hth
  obtain ⟨y, hy⟩ : ∃ y, y = (s.things.getD th noThing).out := ⟨_, rfl⟩
  have t1' : W3.cell? ⟨g1, th * 3 + 1, none⟩ = some (.int .i64 (y : Int)) := by rw [hy]; exact t1
  have t2' : ∃ fb, W3.cell? ⟨g1, th * 3 + 2, none⟩ = some (.bool fb) := ⟨_, t2⟩
  obtain ⟨fb, t2'⟩ := t2'
  obtain ⟨q, hq⟩ : ∃ q, q = s.things.length := ⟨_, rfl⟩
  have hth' : (th : Int) < (q : Int) := by omega
  have x1' : W3.cell? ⟨g, 1, none⟩ = some (.slice (some ⟨g1, 0, none⟩) q k1) := by rw [x1, e1, hq]
  rw [← hy] at hb hbb2
  have HQ := hid hq
  have HV1 := hid e1
  have HW3 := hid hW3
  have IW := hid IW2
  have HY := hid hy
  have HTH := hid hth
  have hwr : IntKind.i64.wrap ((y : Int) - (wt : Int)) = (y : Int) - (wt : Int) := IntWalk.i64_in _ (by omega)
  have gl3 := World.block_lt_of_cell? W3 _ t1'
  have gl4 := World.block_lt_of_cell? W3 _ x1'
  have gl5 := World.block_lt_of_cell? W3 _ z1
  simp only at gl3 gl4 gl5
  have hl3 : q ≤ k1 := by rw [hq]; exact l3
  have CUR := hid (own_block IW2.things g1 (by rw [e1]; rfl))
  have T1 := hid t1'
  have T2 := hid t2'
  clear IW1 IW2 hy hq hth dd ho hu lb lb3 hb2 hW3 t1 t2 t0 x1 e1 l3
  go_upto_region 5 with (fail)
  rw [← HW3.out]
  go_upto_region 8 with (fail)
  go_region
  go_upto_region 9 with (fail)
  go_region
  have dc : ∀ v, (W3.setCell ⟨g1, th * 3 + 1, none⟩ v).frozen? ⟨g1, th * 3 + 2, none⟩ = false := fun v => by obtain ⟨cur, hc⟩ := CUR.out; exact blk_frozen (blk_set hc _ v) _
  have cc : ∀ v, (W3.setCell ⟨g1, th * 3 + 1, none⟩ v).cell? ⟨g1, th * 3 + 1, none⟩ = some v := fun v => by
    obtain ⟨cur, hc⟩ := CUR.out
    rw [blk_cell (blk_set hc (th * 3 + 1) v)]
    have h1 := T1.out
    rw [blk_cell hc] at h1
    have := (Array.getElem?_eq_some_iff.1 h1).1
    simp [this]
  have cd : ∀ v, (W3.setCell ⟨g1, th * 3 + 1, none⟩ v).cell? ⟨g1, th * 3 + 2, none⟩ = some (.bool fb) := fun v => by
    obtain ⟨cur, hc⟩ := CUR.out
    rw [blk_cell (blk_set hc (th * 3 + 1) v)]
    have h1 := T2.out
    rw [blk_cell hc] at h1
    simp [h1]
  go_wp2_with fail
  have E1 : (y : Int) - (wt : Int) = ((y - wt : Nat) : Int) := by omega
  have E2 : (((y - wt : Nat) : Int) == 0) = decide (y - wt = 0) := by
    rw [Bool.eq_iff_iff, beq_iff_eq, decide_eq_true_eq]; omega
  rw [E1, E2]
  go_ret
  have IW' := IW.out
  rw [HV1.out] at IW'
  have IW5 := (IW'.thing_set (t := th) HTH.out (y - wt) (decide (y - wt = 0))).upd ((Upd.refl [] _).drew.drew)
  refine ⟨rfl, ⟨.slice a4 (n - 1) k4, ?_⟩, ?_⟩
  · have e : camehome s i ⟨to, th, wt, true⟩ = { ({ s with way := s.way.eraseIdx i } : Wd) with things := s.things.set th ⟨(s.things.getD th noThing).home, y - wt, decide (y - wt = 0)⟩ } := by unfold camehome; rw [HY.out]
    rw [e, HV1.out]; exact IW5
  · have o1 : Old B w W3 := by rw [HW3.out]; exact (Old.nil ua).trans ((H.out.upd ua).way_old U2.out _)
    have u3 := ((((Upd.refl [g1] W3).setCell (p := ⟨g1, th * 3 + 1, none⟩) (.inl (by simp)) (.int .i64 ((y - wt : Nat) : Int))).setCell (p := ⟨g1, th * 3 + 2, none⟩) (.inl (by simp)) (.bool (decide (y - wt = 0)))).drew.drew)
    have o3 := Old.row IW'.things (by decide) u3
    exact o1.trans o3
end Go.Proofs.Ytmdhhembkmkfdaa.Wt
