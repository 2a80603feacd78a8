/- A world of weights: Make. -/
import Derived.Test.YtmdhhembkmkfdaaWb
namespace Go.Proofs.Ytmdhhembkmkfdaa.Wt
open Go Go.RowKit Go.Proofs.Ytmdhhembkmkfdaa.K Go.Proofs.Ytmdhhembkmkfdaa.M Go.Proofs.Ytmdhhembkmkfdaa.O

/-- What Make leaves. -/
def made (s : Wd) (n : Nat) : Wd := { s with things := s.things ++ [⟨n, 65536, false⟩], has := fun k => if k = n then at1 (s.has n) s.things.length 65536 else s.has k }

set_option maxHeartbeats 4000000 in
set_option maxRecDepth 100000 in
theorem make_yes {w : World} {B g : Nat} {s : Wd} {v1 v2 v3 : Value} {bs : List Nat} (h : IsW w B g s v1 v2 v3 bs) (n : Nat) (hn : n < s.nodes) (h20 : s.things.length < 20) :
    Calls Try.prog 46 #[.pointer (some ⟨g, 0, none⟩), .int .i64 (n : Int)] w fun e w' => e = .returned (.tuple #[.int .i64 (s.things.length : Int), .int .i64 0]) ∧ (∃ v1', IsW w' B g (made s n) v1' v2 v3 bs) ∧ Old B w w' := by
  obtain ⟨i90, hi90, hz90a, hz90b, hz90c⟩ := info_parts info90
  have HI90 := hid hi90
  have HA90 := hid hz90a
  have HB90 := hid hz90b
  have HC90 := hid hz90c
  clear hi90 hz90a hz90b hz90c
  obtain ⟨c0, c1, c2, c3, cf⟩ := h.c0
  have nd := node_any h n
  rw [decide_eq_true hn] at nd
  obtain ⟨a1, k1, e1, l1, l2⟩ := h.len1
  obtain ⟨q, hq⟩ : ∃ q, q = s.things.length := ⟨_, rfl⟩
  rw [← hq] at e1 l1 h20 ⊢
  have q2 : ((q : Int) == 20) = false := by rw [beq_eq_false_iff_ne]; omega
  have gl := World.block_lt_of_cell? w _ c0
  simp only at gl
  have H := hid h
  have HQ := hid hq
  have HV1 := hid e1
  have NN := hid hn
  rw [e1] at c1
  have OW : Hid (w.ownsRow B 90 3 (.slice a1 q k1) q (thingCells s.things)) := by have := h.things; rw [e1, ← hq] at this; exact this
  clear h hq e1 hn
  go_enter Try.func46, Try.ntmps46
  go_wp2_with fail
  refine nd.mono ?_
  rintro e w' ⟨rfl, rfl⟩
  clear nd
  go_upto_region 6 with (first | (at_builtin; refine wpList_app (W := w') rfl (.tmp 20) (.tmp 23) 84 rfl B 90 i90 _ 3 24 Try.underlying84 HI90.out HA90.out HB90.out HC90.out rfl (by decide) (.slice a1 q k1) q (thingCells s.things) rfl OW.out [.int .i64 (n : Int), .int .i64 65536, .bool false] 90 (by first | rfl | (rw [World.size_alloc]; rfl)) rfl (by intro u hu; simp at hu; rcases hu with rfl | rfl | rfl <;> rfl) (by omega) (by omega) (by have := H.out.gB; have := K.blk_lt H.out.blk; omega) ?_; intro v1' w2 ho hu2 hl2; replace ho := (thingCells_snoc s.things ⟨n, 65536, false⟩) ▸ ho; have HO := hid ho; have HU2 := hid hu2; have hb2 := hu2.blk H.out.blk (not_mem_own (fun x hx => own_cells_ne OW.out H.out.blk (by decide) x hx)); have fz := blk_frozen hb2 1; have cz := (blk_cell hb2 1).trans rfl; obtain ⟨a4, k4, e4, -, -, -⟩ := own_view ho; subst e4; clear ho hu2 hl2 hb2))
  obtain ⟨W3, hW3⟩ : ∃ W3, W3 = w2.setCell ⟨g, 1, none⟩ (.slice a4 (q + 1) k4) := ⟨_, rfl⟩
  have IW2 := H.out.things_upd (w' := w2) (v1' := .slice a4 (q + 1) k4) (l := s.things ++ [⟨n, 65536, false⟩]) (by rw [List.length_append, ← HQ.out]; exact HO.out) (by rw [HV1.out]; exact HU2.out)
  rw [← hW3] at IW2 ⊢
  have x1 := IW2.c0.2.1
  have x2 := IW2.c0.2.2.1
  obtain ⟨g2, k2, e2, d2, l3, l4⟩ := IW2.ptr NN.out
  obtain ⟨hBb, m, hm, hnd, hf⟩ := IW2.maps n NN.out
  obtain ⟨b, hbb⟩ : ∃ b, b = bs.getD n 0 := ⟨_, rfl⟩
  rw [← hbb] at d2 hm
  rw [e2] at x2
  have HV2 := hid e2
  clear e2
  have hn' : (n : Int) < (s.nodes : Int) := by have := NN.out; omega
  have HM2 : Hid (IsMap W3.drew b m) := hm.drewN 1
  have HF := hid hf
  have HND := hid hnd
  have HBB := hid hbb
  have HW3 := hid hW3
  have IW := hid IW2
  have HBe := hid hBb
  have hwr : IntKind.i64.wrap (q : Int) = (q : Int) := IntWalk.i64_in _ (by omega)
  have hne : Hid (b ≠ g) := by rw [hbb]; exact IW2.mapNe NN.out
  clear IW2 hm hnd hf hbb hW3 hBb
  refine region_tail 13 (by kernel_rfl) (by kernel_rfl) ?_
  simp only [List.take_succ_cons, List.take_zero, List.drop_succ_cons, List.drop_zero]
  repeat still_step
  refine wpStill_nil ?_
  go_wp2_with (first | (at_mapUpdate; refine wpList_put rfl _ _ _ 88 rfl 3 3 Try.underlying88 Try.underlying3 b m rfl HM2.out (q : Int) (.int .i64 65536) rfl rfl ?_; intro w4 hm4 hu4; have HM4 := hid hm4; have HU4 := hid hu4; have x4 := HU4.out.cell (show W3.drew.cell? ⟨g, 1, none⟩ = _ from x1) (by simp; exact fun e => hne.out e.symm); clear hm4 hu4))
  go_ret2
  have hu4 : Upd [bs.getD n 0] W3 w4 := by rw [← HBB.out]; exact ((Upd.refl [b] W3).drew).trans HU4.out (fun t ht => .inl ht)
  have IW4 := IW.out.map_upd NN.out (HasMap.of_put (t := q) (v := 65536) HND.out HF.out (by rw [← HBB.out]; exact HM4.out)) hu4
  refine ⟨rfl, ⟨.slice a4 (q + 1) k4, ?_⟩, ?_⟩
  · have e : made s n = { ({ s with things := s.things ++ [⟨n, 65536, false⟩] } : Wd) with has := fun k => if k = n then at1 (s.has n) q 65536 else s.has k } := by unfold made; rw [HQ.out]
    rw [e]; exact IW4
  · have o1 : Old B w' W3 := by rw [HW3.out]; exact H.out.things_old (by rw [HV1.out]; exact HU2.out) _
    have o3 : Old B W3 w4 := Old.map (IW.out.maps n NN.out).2 (IW.out.maps n NN.out).1 hu4
    exact o1.trans o3
end Go.Proofs.Ytmdhhembkmkfdaa.Wt
