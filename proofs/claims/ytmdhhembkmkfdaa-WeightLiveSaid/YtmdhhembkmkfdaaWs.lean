/- A world of weights: Send. -/
import Derived.Test.YtmdhhembkmkfdaaWu
namespace Go.Proofs.Ytmdhhembkmkfdaa.Wt
open Go Go.RowKit Go.Proofs.Ytmdhhembkmkfdaa.K Go.Proofs.Ytmdhhembkmkfdaa.M Go.Proofs.Ytmdhhembkmkfdaa.O

theorem info92 : (Try.prog.info? 92).map (fun i => (i.zero, i.size, i.bytes)) = some (some (.agg #[.int .i64 0, .int .i64 0, .int .i64 0, .bool false]), 4, 32) := by kernel_rfl
theorem info90 : (Try.prog.info? 90).map (fun i => (i.zero, i.size, i.bytes)) = some (some (.agg #[.int .i64 0, .int .i64 0, .bool false]), 3, 24) := by kernel_rfl
theorem wayVals_one (x : Way) : ∀ u ∈ wayVals x, u.oneCell' = true := fun u hu => by
  simp [wayVals] at hu; rcases hu with rfl | rfl | rfl | rfl <;> rfl
theorem thingVals_one (x : Thing) : ∀ u ∈ thingVals x, u.oneCell' = true := fun u hu => by
  simp [thingVals] at hu; rcases hu with rfl | rfl | rfl <;> rfl
theorem wayVals_eq (x : Way) : wayVals x = [.int .i64 (x.to : Int), .int .i64 (x.thing : Int), .int .i64 (x.wt : Int), .bool x.back] := rfl
/-- What Send leaves, where it sends. -/
def sent (s : Wd) (n t to : Nat) : Wd := { s with has := fun k => if k = n then at1 (s.has n) t (s.has n t - s.has n t / 2) else s.has k, way := s.way ++ [⟨to, t, s.has n t / 2, false⟩] }

set_option maxHeartbeats 4000000 in
set_option maxRecDepth 100000 in
theorem send_yes {w : World} {B g : Nat} {s : Wd} {v1 v2 v3 : Value} {bs : List Nat} (h : IsW w B g s v1 v2 v3 bs) (n t to : Nat) (hk : chk s n t = 0) (hto : to < s.nodes) (hne : to ≠ n) (hw : s.way.length < 60) (h1 : s.has n t ≠ 1) (hb : s.has n t ≤ 65536) :
    Calls Try.prog 48 #[.pointer (some ⟨g, 0, none⟩), .int .i64 (n : Int), .int .i64 (t : Int), .int .i64 (to : Int)] w fun e w' => e = .returned (.int .i64 0) ∧ (∃ v3', IsW w' B g (sent s n t to) v1 v2 v3' bs) ∧ Old B w w' := by
  obtain ⟨i92, hi92, hz92a, hz92b, hz92c⟩ := info_parts info92
  have HI92 := hid hi92
  have HA92 := hid hz92a
  have HB92 := hid hz92b
  have HC92 := hid hz92c
  clear hi92 hz92a hz92b hz92c
  obtain ⟨c0, c1, c2, c3, cf⟩ := h.c0
  have ck := check_any h n t
  rw [hk] at ck
  have nd := node_any h to
  rw [decide_eq_true hto] at nd
  have hn : n < s.nodes := by
    by_cases q : n < s.nodes
    · exact q
    · unfold chk at hk; rw [if_neg (fun z => q z.1)] at hk; cases hk
  obtain ⟨g2, k2, e2, d2, l3, l4⟩ := h.ptr hn
  obtain ⟨a3, k3, e3, l5, l6⟩ := h.len3
  obtain ⟨hB, m, hm, hnd, hf⟩ := h.maps n hn
  have lk := (run_look (P := Try.prog) hm Try.underlying88 Try.underlying3 (Try.zeroValue3 _) (t : Int)).1
  rw [hf t] at lk
  obtain ⟨b, hbb⟩ : ∃ b, b = bs.getD n 0 := ⟨_, rfl⟩
  obtain ⟨x, hx⟩ : ∃ x, x = s.has n t := ⟨_, rfl⟩
  rw [← hbb] at lk d2 hm
  rw [← hx] at lk h1 hb
  have hn' : (n : Int) < (s.nodes : Int) := by omega
  have q1 : ((to : Int) == (n : Int)) = false := by rw [beq_eq_false_iff_ne]; omega
  have q2 : ((s.way.length : Int) == 60) = false := by rw [beq_eq_false_iff_ne]; omega
  have q3 : ((x : Int) == 1) = false := by rw [beq_eq_false_iff_ne]; omega
  have H := hid h
  have HM := hid hm
  have HF := hid hf
  have HN := hid hnd
  have HBB := hid hbb
  have HX := hid hx
  have HV2 := hid e2
  have HV3 := hid e3
  have NN := hid hn
  have HBe := hid hB
  clear h hk hto hne hm hf hnd hbb hx hn h1 hB
  subst e2
  subst e3
  go_enter Try.func48, Try.ntmps48
  go_wp2_with fail
  refine ck.mono ?_
  rintro e w' ⟨rfl, rfl⟩
  go_wp2_with fail
  refine nd.mono ?_
  rintro e w' ⟨rfl, rfl⟩
  have E := hid (show ((x : Int) - (x : Int) / 2) = ((x - x / 2 : Nat) : Int) by omega)
  have E2 := hid (show ((x : Int) / 2) = ((x / 2 : Nat) : Int) by omega)
  go_wp2_with (first | (at_mapUpdate; refine wpList_put rfl _ _ _ 88 rfl 3 3 Try.underlying88 Try.underlying3 b m rfl HM.out (t : Int) (.int .i64 ((x : Int) - (x : Int) / 2)) rfl rfl ?_; intro w1 hm1 hu1; rw [E.out] at hm1; have IW := hid (H.out.map_upd NN.out (HasMap.of_put HN.out HF.out (by rw [← HBB.out]; exact hm1)) (by rw [← HBB.out]; exact hu1)); have HU1 := hid hu1; have k3c := IW.out.c0.2.2.2.1; clear hm1 hu1) | (at_builtin; refine wpList_app (W := w1) rfl (.tmp 60) (.tmp 66) 70 rfl B 92 i92 _ 4 32 Try.underlying70 HI92.out HA92.out HB92.out HC92.out rfl (by decide) (.slice a3 s.way.length k3) s.way.length (wayCells s.way) rfl IW.out.way [.int .i64 (to : Int), .int .i64 (t : Int), .int .i64 ((x : Int) / 2), .bool false] 92 (by first | rfl | (rw [World.size_alloc]; rfl)) rfl (by intro u hu; simp at hu; rcases hu with rfl | rfl | rfl | rfl <;> rfl) (by omega) (by omega) (by have := IW.out.gB; have := K.blk_lt IW.out.blk; omega) ?_; intro v3' w2 ho hu2 hl2; rw [E2.out] at ho; replace ho := (wayCells_snoc s.way ⟨to, t, x / 2, false⟩) ▸ ho; have HO := hid ho; have HU2 := hid hu2; have hb2 := hu2.blk IW.out.blk (not_mem_own (fun x hx => own_cells_ne IW.out.way IW.out.blk (by decide) x hx)); have fz := blk_frozen hb2 3; have cz := (blk_cell hb2 3).trans rfl; obtain ⟨a4, k4, e4, -, -, -⟩ := own_view ho; subst e4; clear ho hu2 hl2 hb2))
  go_ret
  have ho := HO.out
  have IW2 := IW.out.way_upd (l := s.way ++ [⟨to, t, x / 2, false⟩]) (by rw [List.length_append]; exact ho) HU2.out
  refine ⟨rfl, ⟨.slice a4 (s.way.length + 1) k4, ?_⟩, ?_⟩
  · have : sent s n t to = { { s with has := fun k => if k = n then at1 (s.has n) t (x - x / 2) else s.has k } with way := s.way ++ [⟨to, t, x / 2, false⟩] } := by unfold sent; rw [← HX.out]
    rw [this]; exact IW2
  · refine (Old.map (H.out.maps n NN.out).2 (H.out.maps n NN.out).1 (by rw [← HBB.out]; exact HU1.out)).trans (IW.out.way_old HU2.out _)
end Go.Proofs.Ytmdhhembkmkfdaa.Wt
