/- A world of weights: Come. -/
import Derived.Test.YtmdhhembkmkfdaaWd
import Derived.Deep.Cut
namespace Go.Proofs.Ytmdhhembkmkfdaa.Wt
open Go Go.RowKit Go.Proofs.Ytmdhhembkmkfdaa.K Go.Proofs.Ytmdhhembkmkfdaa.M Go.Proofs.Ytmdhhembkmkfdaa.O

/-- What Come leaves, where a reference comes. -/
def came (s : Wd) (i : Nat) (x : Way) : Wd := { s with has := fun k => if k = x.to then at1 (s.has x.to) x.thing (s.has x.to x.thing + x.wt) else s.has k, way := s.way.eraseIdx i }

set_option maxHeartbeats 4000000 in
set_option maxRecDepth 100000 in
theorem come_to {w : World} {B g : Nat} {s : Wd} {v1 v2 v3 : Value} {bs : List Nat} (h : IsW w B g s v1 v2 v3 bs) (i : Nat) (hi : i < s.way.length) (h60 : s.way.length ≤ 60) (to th wt : Nat) (hx : s.way.getD i noWay = ⟨to, th, wt, false⟩) (hto : to < s.nodes) (hb : s.has to th + wt ≤ 65536) :
    Calls Try.prog 49 #[.pointer (some ⟨g, 0, none⟩), .int .i64 (i : Int)] w fun e w' => e = .returned (.int .i64 0) ∧ (∃ v3', IsW w' B g (came s i ⟨to, th, wt, false⟩) v1 v2 v3' bs) ∧ Old B w w' := by
  obtain ⟨c0, c1, c2, c3, cf⟩ := h.c0
  obtain ⟨g3, k3, e3, y0, y1, y2, y3, l5, l6⟩ := h.wayAt hi
  rw [hx] at y0 y1 y2 y3
  simp only at y0 y1 y2 y3
  obtain ⟨n, hn⟩ : ∃ n, n = s.way.length := ⟨_, rfl⟩
  have dl := fun (w1 : World) (u : Upd [] w w1) => delete_any B v3 s.way n i w1 (by rw [hn]; exact own_new h.way u) hn (by omega) (by omega)
  have hi1 : (i : Int) < (n : Int) := by omega
  have hi2 : ¬ (n : Int) ≤ (i : Int) := by omega
  have H := hid h
  have HN := hid hn
  have DL := hid dl
  have HX := hid hx
  have HV3 := hid e3
  rw [← hn] at l5 hi h60
  rw [e3, ← hn] at c3
  clear h hn dl hx e3
  have gl := World.block_lt_of_cell? w _ c3
  simp only at gl
  go_enter Try.func49, Try.ntmps49
  go_wp2_with fail
  have ua : Upd [] w (w.alloc (.cells #[.int .i64 (to : Int), .int .i64 (th : Int), .int .i64 (wt : Int), .bool false] 92)) := (Upd.refl [] w).alloc _
  have dd := DL.out _ ua
  rw [HV3.out, ← HN.out] at dd
  refine dd.mono ?_
  rintro e w2 ⟨v', rfl, ho, hu⟩
  replace hu : Upd v3.ownBlock.toList (w.alloc (.cells #[.int .i64 (to : Int), .int .i64 (th : Int), .int .i64 (wt : Int), .bool false] 92)) w2 := by rw [HV3.out, ← HN.out]; exact hu
  have IW1 := H.out.upd ua
  have hb2 := hu.blk IW1.blk (not_mem_own (fun y hy => own_cells_ne IW1.way IW1.blk (by decide) y hy))
  have fz := blk_frozen hb2 3
  have cz := (blk_cell hb2 3).trans rfl
  have lb : w2.heap[w.heap.size]? = some (.cells #[.int .i64 (to : Int), .int .i64 (th : Int), .int .i64 (wt : Int), .bool false] 92 (0, 0)) := hu.blk (blk_new w _) (not_mem_own (fun y hy => by have := own_lt H.out.way y hy; omega))
  obtain ⟨a4, k4, e4, -, -, -⟩ := own_view ho
  subst e4
  have IW2 := IW1.way_upd (l := s.way.eraseIdx i) (by rw [List.length_eraseIdx, if_pos (by rw [← HN.out]; exact hi), ← HN.out]; exact ho) hu
  have U2 := hid hu
  obtain ⟨W3, hW3⟩ : ∃ W3, W3 = w2.setCell ⟨g, 3, none⟩ (.slice a4 (n - 1) k4) := ⟨_, rfl⟩
  rw [← hW3] at IW2
  have lb3 : W3.heap[w.heap.size]? = some (.cells #[.int .i64 (to : Int), .int .i64 (th : Int), .int .i64 (wt : Int), .bool false] 92 (0, 0)) := by rw [hW3]; exact blk_far lb (by simp only; omega) _
  have z0 : W3.cell? ⟨w.heap.size, 0, none⟩ = some (.int .i64 (to : Int)) := (blk_cell lb3 0).trans rfl
  have z1 : W3.cell? ⟨w.heap.size, 1, none⟩ = some (.int .i64 (th : Int)) := (blk_cell lb3 1).trans rfl
  have z2 : W3.cell? ⟨w.heap.size, 2, none⟩ = some (.int .i64 (wt : Int)) := (blk_cell lb3 2).trans rfl
  have z3 : W3.cell? ⟨w.heap.size, 3, none⟩ = some (.bool false) := (blk_cell lb3 3).trans rfl
  have x2 := IW2.c0.2.2.1
  obtain ⟨g2, k2, e2, d2, l3, l4⟩ := IW2.ptr hto
  obtain ⟨hBb, m, hm, hnd, hf⟩ := IW2.maps to hto
  obtain ⟨b, hbb⟩ : ∃ b, b = bs.getD to 0 := ⟨_, rfl⟩
  obtain ⟨y, hy⟩ : ∃ y, y = s.has to th := ⟨_, rfl⟩
  have lk := (run_look (P := Try.prog) (w := W3.drew) (hm.drewN 1) Try.underlying88 Try.underlying3 (Try.zeroValue3 _) (th : Int)).1
  have hf' := hf th
  rw [hf'] at lk
  have e7 : ({ s with way := s.way.eraseIdx i } : Wd).has to th = s.has to th := rfl
  rw [e7, ← hy, ← hbb] at lk
  rw [← hbb] at d2
  have hto' : (to : Int) < (s.nodes : Int) := by omega
  have HW3 := hid hW3
  have IW := hid IW2
  have HM := hid hm
  have HF := hid hf
  have HND := hid hnd
  have HBB := hid hbb
  have HY := hid hy
  have HTO := hid hto
  rw [← hy] at hb
  rw [e2] at x2
  clear IW1 IW2 hm hf hnd hbb hy hto hf' e7 hBb dd ho hu lb lb3 hb2 hW3
  go_upto_region 5 with (fail)
  rw [← HW3.out]
  go_upto_region 6 with (fail)
  have hwr : IntKind.i64.wrap ((y : Int) + (wt : Int)) = (y : Int) + (wt : Int) := IntWalk.i64_in _ (by omega)
  refine region_tail 14 (by kernel_rfl) (by kernel_rfl) ?_
  simp only [List.take_succ_cons, List.take_zero, List.drop_succ_cons, List.drop_zero]
  repeat still_step
  refine wpStill_nil ?_
  have HM2 : Hid (IsMap W3.drew b m) := by rw [HBB.out]; exact HM.out.drewN 1
  have E := hid (show (y : Int) + (wt : Int) = ((y + wt : Nat) : Int) by omega)
  go_wp2_with (first | (at_mapUpdate; refine wpList_put rfl _ _ _ 88 rfl 3 3 Try.underlying88 Try.underlying3 b m rfl HM2.out (th : Int) (.int .i64 ((y : Int) + (wt : Int))) rfl rfl ?_; intro w4 hm4 hu4; rw [E.out] at hm4; have HM4 := hid hm4; have HU4 := hid hu4; clear hm4 hu4))
  go_ret
  have hu4 : Upd [bs.getD to 0] W3 w4 := by rw [← HBB.out]; exact ((Upd.refl [b] W3).drew).trans HU4.out (fun t ht => .inl ht)
  have IW4 := IW.out.map_upd HTO.out (HasMap.of_put HND.out HF.out (by rw [← HBB.out]; exact HM4.out)) hu4
  refine ⟨rfl, ⟨.slice a4 (n - 1) k4, ?_⟩, ?_⟩
  · have e : came s i ⟨to, th, wt, false⟩ = { ({ s with way := s.way.eraseIdx i } : Wd) with has := fun k => if k = to then at1 (s.has to) th (y + wt) else s.has k } := by unfold came; rw [HY.out]
    rw [e]; exact IW4
  · have o1 : Old B w W3 := by rw [HW3.out]; exact (Old.nil ua).trans ((H.out.upd ua).way_old U2.out _)
    have o3 : Old B W3 w4 := Old.map (IW.out.maps to HTO.out).2 (IW.out.maps to HTO.out).1 hu4
    exact o1.trans o3
end Go.Proofs.Ytmdhhembkmkfdaa.Wt
