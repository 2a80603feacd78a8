/- explore.step. -/
import Derived.Test.YtklacfdbpmkiiaaYa
namespace Go.Proofs.Ytklacfdbpmkiiaa.Y
open Go Go.RowKit Go.Proofs.Ytklacfdbpmkiiaa Go.Proofs.Ytklacfdbpmkiiaa.K Go.Proofs.Ytklacfdbpmkiiaa.M Go.Proofs.Ytklacfdbpmkiiaa.O Go.Proofs.Ytklacfdbpmkiiaa.R Go.Proofs.Ytklacfdbpmkiiaa.A
open Go.Proofs.Ytklacfdbpmkiiaa.X (D St Ps noD act wr dep may newC newH stp)

/-- A state's cell, by its number. -/
def stf (s : St) (z : Nat) : Value := if z < 4 then nv (s.c.getD z 0) else if z < 8 then nv (s.h.getD (z - 4) 0) else nv (s.a.getD (z - 8) 0)
theorem stl_stf (s : St) (z : Nat) (hz : z < 12) : (stl s).getD z undef = stf s z := by
  rcases (show z = 0 ∨ z = 1 ∨ z = 2 ∨ z = 3 ∨ z = 4 ∨ z = 5 ∨ z = 6 ∨ z = 7 ∨ z = 8 ∨ z = 9 ∨ z = 10 ∨ z = 11 by omega) with rfl | rfl | rfl | rfl | rfl | rfl | rfl | rfl | rfl | rfl | rfl | rfl <;> rfl
def setC (s : St) (i x : Nat) : St := ⟨s.c.set i x, s.h, s.a⟩
def setH (s : St) (i x : Nat) : St := ⟨s.c, s.h.set i x, s.a⟩
def setA (s : St) (i x : Nat) : St := ⟨s.c, s.h, s.a.set i x⟩
theorem stf_setC (s : St) (i x z : Nat) (hl : s.c.length = 4) (hi : i < 4) : stf (setC s i x) z = if z = i then nv x else stf s z := by
  unfold stf setC
  by_cases h : z < 4
  · simp only [if_pos h]
    by_cases e : z = i
    · subst e; rw [if_pos rfl, X.set_eq _ (by omega)]
    · rw [if_neg e, X.set_ne _ _ (fun q => e q.symm)]
  · simp only [if_neg h]
    rw [if_neg (by omega : ¬ z = i)]
theorem stf_setH (s : St) (i x z : Nat) (hl : s.h.length = 4) (hi : i < 4) : stf (setH s i x) z = if z = 4 + i then nv x else stf s z := by
  unfold stf setH
  by_cases h : z < 4
  · simp only [if_pos h]; rw [if_neg (by omega : ¬ z = 4 + i)]
  · by_cases h8 : z < 8
    · simp only [if_neg h, if_pos h8]
      by_cases e : z = 4 + i
      · subst e; rw [if_pos rfl, show 4 + i - 4 = i by omega, X.set_eq _ (by omega)]
      · rw [if_neg e, X.set_ne _ _ (fun q => e (by omega))]
    · simp only [if_neg h, if_neg h8]; rw [if_neg (by omega : ¬ z = 4 + i)]
theorem stf_setA (s : St) (i x z : Nat) (hl : s.a.length = 4) (hi : i < 4) : stf (setA s i x) z = if z = 8 + i then nv x else stf s z := by
  unfold stf setA
  by_cases h : z < 4
  · simp only [if_pos h]; rw [if_neg (by omega : ¬ z = 8 + i)]
  · by_cases h8 : z < 8
    · simp only [if_neg h, if_pos h8]; rw [if_neg (by omega : ¬ z = 8 + i)]
    · simp only [if_neg h, if_neg h8]
      by_cases e : z = 8 + i
      · subst e; rw [if_pos rfl, show 8 + i - 8 = i by omega, X.set_eq _ (by omega)]
      · rw [if_neg e, X.set_ne _ _ (fun q => e (by omega))]
/-- The step but for the place in the program. -/
def half (s : St) (i : Nat) (d : D) : St := if d.kind = 1 then setH s i (s.c.getD d.cell 0) else if d.kind = 2 then setC s d.cell (s.h.getD i 0 + d.val) else if d.kind = 3 then setC s d.cell (s.c.getD d.cell 0 + d.val) else s
theorem half_al {P : Ps} {s : St} (h : SOk P s) (i : Nat) (d : D) : (half s i d).a.length = 4 := by
  unfold half setH setC; split
  · exact h.al
  · split
    · exact h.al
    · split <;> exact h.al
theorem stf_half8 (s : St) (i j : Nat) (d : D) : stf (half s i d) (8 + j) = stf s (8 + j) := by
  have : (half s i d).a = s.a := by
    unfold half setH setC; split
    · rfl
    · split
      · rfl
      · split <;> rfl
  unfold stf
  rw [if_neg (by omega), if_neg (by omega), if_neg (by omega), if_neg (by omega), this]
theorem stp_half (P : Ps) (s : St) (i : Nat) : stp P s i = setA (half s i (act P s i)) i (s.a.getD i 0 + 1) := by
  unfold X.stp half X.newC X.newH setA setC setH
  by_cases h1 : (act P s i).kind = 1
  · simp [h1]
  · by_cases h2 : (act P s i).kind = 2
    · simp [h2]
    · by_cases h3 : (act P s i).kind = 3
      · simp [h3]
      · simp [h1, h2, h3]

theorem set12 {w : World} {g : Nat} {t : TypeId} {y0 y1 y2 y3 y4 y5 y6 y7 y8 y9 y10 y11 z0 z1 z2 z3 z4 z5 z6 z7 z8 z9 z10 z11 : Value} (h : w.heap[g]? = some (.cells #[z0, z1, z2, z3, z4, z5, z6, z7, z8, z9, z10, z11] t (0, 0))) : ((((((((((((w.setCell ⟨g, 0, none⟩ y0).setCell ⟨g, 1, none⟩ y1).setCell ⟨g, 2, none⟩ y2).setCell ⟨g, 3, none⟩ y3).setCell ⟨g, 4, none⟩ y4).setCell ⟨g, 5, none⟩ y5).setCell ⟨g, 6, none⟩ y6).setCell ⟨g, 7, none⟩ y7).setCell ⟨g, 8, none⟩ y8).setCell ⟨g, 9, none⟩ y9).setCell ⟨g, 10, none⟩ y10).setCell ⟨g, 11, none⟩ y11).heap[g]? = some (.cells #[y0, y1, y2, y3, y4, y5, y6, y7, y8, y9, y10, y11] t (0, 0)) := by
  replace h := K.blk_set h 0 y0
  simp only [List.setIfInBounds_toArray, List.set_cons_zero] at h
  replace h := K.blk_set h 1 y1
  simp only [List.setIfInBounds_toArray, List.set_cons_zero, List.set_cons_succ] at h
  replace h := K.blk_set h 2 y2
  simp only [List.setIfInBounds_toArray, List.set_cons_zero, List.set_cons_succ] at h
  replace h := K.blk_set h 3 y3
  simp only [List.setIfInBounds_toArray, List.set_cons_zero, List.set_cons_succ] at h
  replace h := K.blk_set h 4 y4
  simp only [List.setIfInBounds_toArray, List.set_cons_zero, List.set_cons_succ] at h
  replace h := K.blk_set h 5 y5
  simp only [List.setIfInBounds_toArray, List.set_cons_zero, List.set_cons_succ] at h
  replace h := K.blk_set h 6 y6
  simp only [List.setIfInBounds_toArray, List.set_cons_zero, List.set_cons_succ] at h
  replace h := K.blk_set h 7 y7
  simp only [List.setIfInBounds_toArray, List.set_cons_zero, List.set_cons_succ] at h
  replace h := K.blk_set h 8 y8
  simp only [List.setIfInBounds_toArray, List.set_cons_zero, List.set_cons_succ] at h
  replace h := K.blk_set h 9 y9
  simp only [List.setIfInBounds_toArray, List.set_cons_zero, List.set_cons_succ] at h
  replace h := K.blk_set h 10 y10
  simp only [List.setIfInBounds_toArray, List.set_cons_zero, List.set_cons_succ] at h
  replace h := K.blk_set h 11 y11
  simp only [List.setIfInBounds_toArray, List.set_cons_zero, List.set_cons_succ] at h
  exact h
theorem upd12 {w0 w : World} {g : Nat} {y0 y1 y2 y3 y4 y5 y6 y7 y8 y9 y10 y11 : Value} (h : Upd [] w0 w) (hg : w0.heap.size ≤ g) : Upd [] w0 ((((((((((((w.setCell ⟨g, 0, none⟩ y0).setCell ⟨g, 1, none⟩ y1).setCell ⟨g, 2, none⟩ y2).setCell ⟨g, 3, none⟩ y3).setCell ⟨g, 4, none⟩ y4).setCell ⟨g, 5, none⟩ y5).setCell ⟨g, 6, none⟩ y6).setCell ⟨g, 7, none⟩ y7).setCell ⟨g, 8, none⟩ y8).setCell ⟨g, 9, none⟩ y9).setCell ⟨g, 10, none⟩ y10).setCell ⟨g, 11, none⟩ y11) := ((((((((((((h.setCell (.inr hg) _).setCell (.inr hg) _).setCell (.inr hg) _).setCell (.inr hg) _).setCell (.inr hg) _).setCell (.inr hg) _).setCell (.inr hg) _).setCell (.inr hg) _).setCell (.inr hg) _).setCell (.inr hg) _).setCell (.inr hg) _).setCell (.inr hg) _)

set_option maxHeartbeats 4000000 in
set_option maxRecDepth 100000 in
theorem step_any (a : Option Addr) (cap : Nat) (P : Ps) (s : St) (i : Nat) (w : World) (hP : PAt w a P) (hi : i < P.length) (_hc1 : P.length ≤ cap) (_hc2 : cap ≤ 9223372036854775807) (ok : Ok P) (so : SOk P s) (hm : s.a.getD i 0 < (P.getD i []).length) :
    Calls Try.prog 25 #[.slice a P.length cap, stv s, .int .i64 (i : Int)] w fun e w' => e = .returned (stv (stp P s i)) ∧ Upd [] w w' := by
  obtain ⟨r, cs, b, capb, rfl, hb, he, hlc, hcm, hd⟩ := hP i hi
  have hi4 : i < 4 := Nat.lt_of_lt_of_le hi ok.few
  have hA := (st_blk w s).congr (fun z hz => (stl_stf s z hz).symm)
  have hD := K.blk_alloc hb (.cells (stl s).toArray 35)
  obtain ⟨ai, hai⟩ : ∃ x, x = s.a.getD i 0 := ⟨_, rfl⟩
  obtain ⟨ln, hln⟩ : ∃ x, x = (P.getD i []).length := ⟨_, rfl⟩
  have HLN := hid hln
  have HAI := hid hai
  have hlt : ai < ln := by rw [hai, hln]; exact hm
  have hn := len_le P ok i
  rw [← hln] at hn he hlc
  obtain ⟨g, ds, hbe, hgb, e0, e1, e2⟩ := hd ai (by rw [← hln]; exact hlt)
  obtain ⟨d, hd'⟩ : ∃ d, d = (P.getD i []).getD ai noD := ⟨_, rfl⟩
  have hgo := ok.get i ai
  rw [← hd'] at e0 e1 e2 hgo
  obtain ⟨kd, c, v⟩ := d
  have hca : (⟨kd, c, v⟩ : D) = act P s i := by rw [hd']; unfold X.act; rw [hai]
  have HCA := hid hca
  simp only at e0 e1 e2 hgo
  obtain ⟨⟨hc4, hv2⟩, hk1, hk4⟩ := hgo
  subst hbe
  obtain ⟨n, hn'⟩ : ∃ n, n = P.length := ⟨_, rfl⟩
  have hi' : i < n := by rw [hn']; exact hi
  rw [← hn'] at _hc1 ⊢
  have hG := K.blk_alloc hgb (.cells (stl s).toArray 35)
  rw [stp_half, ← hca, ← hai]
  obtain ⟨xc, hxc⟩ : ∃ x, x = s.c.getD c 0 := ⟨_, rfl⟩
  obtain ⟨xh, hxh⟩ : ∃ x, x = s.h.getD i 0 := ⟨_, rfl⟩
  have hxcb : xc ≤ 24 := by have := so.cs c; omega
  have hxhb : xh ≤ 24 := by have := so.hs i; omega
  have SA := hid so
  obtain ⟨F, hF⟩ : ∃ F : St, F = setA (half s i ⟨kd, c, v⟩) i (ai + 1) := ⟨_, rfl⟩
  have HF := hid hF
  have HXC := hid hxc
  have HXH := hid hxh
  rw [← hF]
  clear hn' hln hai hP hi so ok hca hd' hd hm hF hxc hxh hgb hb
  unfold stv
  obtain ⟨x0, x1, x2, x3, x4, x5, x6, x7, x8, x9, x10, x11, hst⟩ := st_open s
  have HST := hid hst
  rw [hst] at hA hD hG
  go_enter Try.func25, Try.ntmps25
  rw [hst]
  clear hst
  go_wp2_with fail
  obtain ⟨E, hE⟩ : ∃ E, E = w.heap.size := ⟨_, rfl⟩
  obtain ⟨W, hW⟩ : ∃ W, W = (w.alloc (.cells #[.int .i64 (x0 : Int), .int .i64 (x1 : Int), .int .i64 (x2 : Int), .int .i64 (x3 : Int), .int .i64 (x4 : Int), .int .i64 (x5 : Int), .int .i64 (x6 : Int), .int .i64 (x7 : Int), .int .i64 (x8 : Int), .int .i64 (x9 : Int), .int .i64 (x10 : Int), .int .i64 (x11 : Int)] 35)).alloc (.cells #[.int .i64 0, .int .i64 0, .int .i64 0, .int .i64 0, .int .i64 0, .int .i64 0, .int .i64 0, .int .i64 0, .int .i64 0, .int .i64 0, .int .i64 0, .int .i64 0] 35) := ⟨_, rfl⟩
  have UW := hid (show Upd [] w W by rw [hW]; exact ((Upd.refl [] w).alloc _).alloc _)
  have hR : W.heap[E + 1]? = some (.cells #[.int .i64 0, .int .i64 0, .int .i64 0, .int .i64 0, .int .i64 0, .int .i64 0, .int .i64 0, .int .i64 0, .int .i64 0, .int .i64 0, .int .i64 0, .int .i64 0] 35 (0, 0)) := by rw [hW, hE]; exact blk_new2 w _ _
  have hAW : Arr W E 35 12 (stf s) := by rw [hW, hE]; exact hA.alloc _
  have hDW : W.heap[r]? = some (.cells cs 46 (0, 0)) := by rw [hW]; exact K.blk_alloc hD _
  have hGW : W.heap[g]? = some (.cells ds 49 (0, 0)) := by rw [hW]; exact K.blk_alloc hG _
  have f0 : W.cell? ⟨g, ai * 3, none⟩ = some (.int .i64 (kd : Int)) := (K.blk_cell hGW _).trans e0
  have f1 : W.cell? ⟨g, ai * 3 + 1, none⟩ = some (.int .i64 (c : Int)) := (K.blk_cell hGW _).trans e1
  have f2 : W.cell? ⟨g, ai * 3 + 2, none⟩ = some (.int .i64 (v : Int)) := (K.blk_cell hGW _).trans e2
  have f3 : W.cell? ⟨r, i, none⟩ = some (.slice (some ⟨g, 0, none⟩) ln capb) := (K.blk_cell hDW _).trans he
  have f4 : W.cell? ⟨E, 8 + i, none⟩ = some (.int .i64 (ai : Int)) := hAW.val (by omega) (by unfold stf; rw [if_neg (by omega), if_neg (by omega), show 8 + i - 8 = i by omega, ← HAI.out]; rfl)
  have lr : r < W.heap.size := cell_lt f3
  have lg : g < W.heap.size := cell_lt f0
  have lE : E < W.heap.size := cell_lt f4
  have hsz : W.heap.size = E + 1 + 1 := by rw [hW, hE]; simp
  have HAW := hid hAW
  have HR := hid hR
  have HSZ := hid hsz
  have hE1 : w.heap.size + 1 = E + 1 := by rw [hE]
  rw [← hW]
  rw [hE1]
  rw [← hE]
  have hi4i : (i : Int) < 4 := by omega
  have hlti : (ai : Int) < (ln : Int) := by omega
  have hini : (i : Int) < (n : Int) := by omega
  have HEW := hid (show w.heap.size ≤ E by rw [hE]; exact Nat.le_refl _)
  clear hE hW hA hD hG hR hAW hDW hGW e0 e1 e2 he hsz hE1
  go_upto_region 1 with (fail)
  go_region
  obtain ⟨Y, hY⟩ : ∃ Y, Y = W.heap.size := ⟨_, rfl⟩
  obtain ⟨V, hV⟩ : ∃ V, V = (W.alloc (.cells #[.int .i64 (kd : Int), .int .i64 (c : Int), .int .i64 (v : Int)] 49)).drew := ⟨_, rfl⟩
  have hb2 : V.heap[Y]? = some (.cells #[.int .i64 (kd : Int), .int .i64 (c : Int), .int .i64 (v : Int)] 49 (0, 0)) := by rw [hV, hY]; exact K.blk_new _ _
  have UV := hid (show Upd [] w V by rw [hV]; exact (UW.out.alloc _).drew)
  have q0 := (K.blk_cell hb2 0).trans rfl
  have q1 := (K.blk_cell hb2 1).trans rfl
  have q2 := (K.blk_cell hb2 2).trans rfl
  have AV : Arr V E 35 12 (stf s) := by rw [hV]; exact HAW.out.alloc _
  have HRV := hid (show V.heap[E + 1]? = some (.cells #[.int .i64 0, .int .i64 0, .int .i64 0, .int .i64 0, .int .i64 0, .int .i64 0, .int .i64 0, .int .i64 0, .int .i64 0, .int .i64 0, .int .i64 0, .int .i64 0] 35 (0, 0)) by rw [hV]; exact K.blk_alloc HR.out _)
  have q3 : V.cell? ⟨E, c, none⟩ = some (.int .i64 (xc : Int)) := AV.val (by omega) (by unfold stf; rw [if_pos hc4, ← HXC.out]; rfl)
  have q4 : V.cell? ⟨E, 4 + i, none⟩ = some (.int .i64 (xh : Int)) := AV.val (by omega) (by unfold stf; rw [if_neg (by omega), if_pos (by omega), show 4 + i - 4 = i by omega, ← HXH.out]; rfl)
  have q5 : V.cell? ⟨E, 8 + i, none⟩ = some (.int .i64 (ai : Int)) := AV.val (by omega) (by unfold stf; rw [if_neg (by omega), if_neg (by omega), show 8 + i - 8 = i by omega, ← HAI.out]; rfl)
  have p3 := AV.fro c
  have p4 := AV.fro (4 + i)
  have p5 := AV.fro (8 + i)
  have HAV := hid AV
  rw [← hV]
  rw [← hY]
  have hc4i : (c : Int) < 4 := by omega
  have lE2 : E < V.heap.size := cell_lt q3
  have lY2 : Y < V.heap.size := cell_lt q0
  have hEY : E ≠ Y := by rw [hY, HSZ.out]; omega
  clear f0 f1 f2 f3 f4 lr lg lE hV hY hb2 AV HAW HR UW
  have ha8 := hid (show stf s (8 + i) = nv ai by unfold stf; rw [if_neg (by omega), if_neg (by omega), show 8 + i - 8 = i by omega, ← HAI.out])
  rcases (show kd = 1 ∨ kd = 2 ∨ kd = 3 ∨ kd = 4 by omega) with rfl | rfl | rfl | rfl
  · go_upto_region 9 with (fail)
    obtain ⟨V3, hV3⟩ : ∃ V3, V3 = V.setCell ⟨E, 4 + i, none⟩ (.int .i64 (xc : Int)) := ⟨_, rfl⟩
    have A3 : Arr V3 E 35 12 (stf (half s i ⟨1, c, v⟩)) := by
      rw [hV3]
      exact (HAV.out.set (4 + i) _).congr (fun z _ => (stf_setH s i (s.c.getD c 0) z SA.out.hl hi4).trans (by rw [← HXC.out]; rfl))
    have U3 := hid (show Upd [] w V3 by rw [hV3]; exact UV.out.setCell (.inr HEW.out) _)
    have HR3 : Hid (V3.heap[E + 1]? = some (.cells #[.int .i64 0, .int .i64 0, .int .i64 0, .int .i64 0, .int .i64 0, .int .i64 0, .int .i64 0, .int .i64 0, .int .i64 0, .int .i64 0, .int .i64 0, .int .i64 0] 35 (0, 0))) := by rw [hV3]; exact K.blk_far HRV.out (by simp) _
    have q6 : V3.cell? ⟨E, 8 + i, none⟩ = some (.int .i64 (ai : Int)) := A3.val (by omega) (by rw [stf_half8]; exact ha8.out)
    have p6 := A3.fro (8 + i)
    have HA3 := hid A3
    rw [← hV3]
    clear hV3 A3 q0 q1 q2 q3 q4 q5 p3 p4 p5 lE2 lY2 hEY HAV UV HRV
    go_upto_region 10 with (fail)
    obtain ⟨V4, hV4⟩ : ∃ V4, V4 = V3.setCell ⟨E, 8 + i, none⟩ (.int .i64 ((ai : Int) + 1)) := ⟨_, rfl⟩
    have A4 : Arr V4 E 35 12 (stf F) := by
      rw [hV4, HF.out]
      exact (HA3.out.set (8 + i) _).congr (fun z _ => (stf_setA (half s i ⟨1, c, v⟩) i (ai + 1) z (half_al SA.out i _) hi4).trans (by split <;> rfl))
    have U4 := hid (show Upd [] w V4 by rw [hV4]; exact U3.out.setCell (.inr HEW.out) _)
    have H4 : V4.heap[E + 1]? = some (.cells #[.int .i64 0, .int .i64 0, .int .i64 0, .int .i64 0, .int .i64 0, .int .i64 0, .int .i64 0, .int .i64 0, .int .i64 0, .int .i64 0, .int .i64 0, .int .i64 0] 35 (0, 0)) := by rw [hV4]; exact K.blk_far HR3.out (by simp) _
    rw [← hV4]
    clear hV4 q6 p6 HA3 HR3 U3
    obtain ⟨y0, y1, y2, y3, y4, y5, y6, y7, y8, y9, y10, y11, hy⟩ := st_open F
    have kk : ∀ z, z < 12 → V4.cell? ⟨E, z, none⟩ = some ((stl F).getD z undef) := fun z hz => A4.val hz (stl_stf F z hz).symm
    have HY := hid hy
    rw [hy] at kk
    have k0 := kk 0 (by decide)
    have k1 := kk 1 (by decide)
    have k2 := kk 2 (by decide)
    have k3 := kk 3 (by decide)
    have k4 := kk 4 (by decide)
    have k5 := kk 5 (by decide)
    have k6 := kk 6 (by decide)
    have k7 := kk 7 (by decide)
    have k8 := kk 8 (by decide)
    have k9 := kk 9 (by decide)
    have k10 := kk 10 (by decide)
    have k11 := kk 11 (by decide)
    simp only [List.getD_cons_zero, List.getD_cons_succ] at k0 k1 k2 k3 k4 k5 k6 k7 k8 k9 k10 k11
    have g0 := K.blk_frozen H4 0
    have j0 := (K.blk_cell H4 0).trans rfl
    have g1 := K.blk_frozen H4 1
    have j1 := (K.blk_cell H4 1).trans rfl
    have g2 := K.blk_frozen H4 2
    have j2 := (K.blk_cell H4 2).trans rfl
    have g3 := K.blk_frozen H4 3
    have j3 := (K.blk_cell H4 3).trans rfl
    have g4 := K.blk_frozen H4 4
    have j4 := (K.blk_cell H4 4).trans rfl
    have g5 := K.blk_frozen H4 5
    have j5 := (K.blk_cell H4 5).trans rfl
    have g6 := K.blk_frozen H4 6
    have j6 := (K.blk_cell H4 6).trans rfl
    have g7 := K.blk_frozen H4 7
    have j7 := (K.blk_cell H4 7).trans rfl
    have g8 := K.blk_frozen H4 8
    have j8 := (K.blk_cell H4 8).trans rfl
    have g9 := K.blk_frozen H4 9
    have j9 := (K.blk_cell H4 9).trans rfl
    have g10 := K.blk_frozen H4 10
    have j10 := (K.blk_cell H4 10).trans rfl
    have g11 := K.blk_frozen H4 11
    have j11 := (K.blk_cell H4 11).trans rfl
    clear kk hy A4
    go_wp2_with fail
    refine bodyPost_ret (results_cell (ct := 35) rfl rfl (set12 H4) Try.underlying35 rfl (by kernel_rfl)) rfl ?_
    exact ⟨by rw [HY.out], upd12 U4.out (by have := HEW.out; omega)⟩
  · go_upto_region 6 with (fail)
    go_region
    go_upto_region 9 with (fail)
    obtain ⟨V3, hV3⟩ : ∃ V3, V3 = (V.setCell ⟨E, c, none⟩ (.int .i64 ((xh : Int) + (v : Int)))).drew := ⟨_, rfl⟩
    have A3 : Arr V3 E 35 12 (stf (half s i ⟨2, c, v⟩)) := by
      rw [hV3]
      exact show Arr (V.setCell _ _) E 35 12 _ from (HAV.out.set c _).congr (fun z _ => (stf_setC s c (s.h.getD i 0 + v) z SA.out.cl hc4).trans (by rw [← HXH.out]; rfl))
    have U3 := hid (show Upd [] w V3 by rw [hV3]; exact (UV.out.setCell (.inr HEW.out) _).drew)
    have HR3 : Hid (V3.heap[E + 1]? = some (.cells #[.int .i64 0, .int .i64 0, .int .i64 0, .int .i64 0, .int .i64 0, .int .i64 0, .int .i64 0, .int .i64 0, .int .i64 0, .int .i64 0, .int .i64 0, .int .i64 0] 35 (0, 0))) := by rw [hV3]; exact K.blk_far HRV.out (by simp) _
    have q6 : V3.cell? ⟨E, 8 + i, none⟩ = some (.int .i64 (ai : Int)) := A3.val (by omega) (by rw [stf_half8]; exact ha8.out)
    have p6 := A3.fro (8 + i)
    have HA3 := hid A3
    rw [← hV3]
    clear hV3 A3 q0 q1 q2 q3 q4 q5 p3 p4 p5 lE2 lY2 hEY HAV UV HRV
    go_upto_region 10 with (fail)
    obtain ⟨V4, hV4⟩ : ∃ V4, V4 = V3.setCell ⟨E, 8 + i, none⟩ (.int .i64 ((ai : Int) + 1)) := ⟨_, rfl⟩
    have A4 : Arr V4 E 35 12 (stf F) := by
      rw [hV4, HF.out]
      exact (HA3.out.set (8 + i) _).congr (fun z _ => (stf_setA (half s i ⟨2, c, v⟩) i (ai + 1) z (half_al SA.out i _) hi4).trans (by split <;> rfl))
    have U4 := hid (show Upd [] w V4 by rw [hV4]; exact U3.out.setCell (.inr HEW.out) _)
    have H4 : V4.heap[E + 1]? = some (.cells #[.int .i64 0, .int .i64 0, .int .i64 0, .int .i64 0, .int .i64 0, .int .i64 0, .int .i64 0, .int .i64 0, .int .i64 0, .int .i64 0, .int .i64 0, .int .i64 0] 35 (0, 0)) := by rw [hV4]; exact K.blk_far HR3.out (by simp) _
    rw [← hV4]
    clear hV4 q6 p6 HA3 HR3 U3
    obtain ⟨y0, y1, y2, y3, y4, y5, y6, y7, y8, y9, y10, y11, hy⟩ := st_open F
    have kk : ∀ z, z < 12 → V4.cell? ⟨E, z, none⟩ = some ((stl F).getD z undef) := fun z hz => A4.val hz (stl_stf F z hz).symm
    have HY := hid hy
    rw [hy] at kk
    have k0 := kk 0 (by decide)
    have k1 := kk 1 (by decide)
    have k2 := kk 2 (by decide)
    have k3 := kk 3 (by decide)
    have k4 := kk 4 (by decide)
    have k5 := kk 5 (by decide)
    have k6 := kk 6 (by decide)
    have k7 := kk 7 (by decide)
    have k8 := kk 8 (by decide)
    have k9 := kk 9 (by decide)
    have k10 := kk 10 (by decide)
    have k11 := kk 11 (by decide)
    simp only [List.getD_cons_zero, List.getD_cons_succ] at k0 k1 k2 k3 k4 k5 k6 k7 k8 k9 k10 k11
    have g0 := K.blk_frozen H4 0
    have j0 := (K.blk_cell H4 0).trans rfl
    have g1 := K.blk_frozen H4 1
    have j1 := (K.blk_cell H4 1).trans rfl
    have g2 := K.blk_frozen H4 2
    have j2 := (K.blk_cell H4 2).trans rfl
    have g3 := K.blk_frozen H4 3
    have j3 := (K.blk_cell H4 3).trans rfl
    have g4 := K.blk_frozen H4 4
    have j4 := (K.blk_cell H4 4).trans rfl
    have g5 := K.blk_frozen H4 5
    have j5 := (K.blk_cell H4 5).trans rfl
    have g6 := K.blk_frozen H4 6
    have j6 := (K.blk_cell H4 6).trans rfl
    have g7 := K.blk_frozen H4 7
    have j7 := (K.blk_cell H4 7).trans rfl
    have g8 := K.blk_frozen H4 8
    have j8 := (K.blk_cell H4 8).trans rfl
    have g9 := K.blk_frozen H4 9
    have j9 := (K.blk_cell H4 9).trans rfl
    have g10 := K.blk_frozen H4 10
    have j10 := (K.blk_cell H4 10).trans rfl
    have g11 := K.blk_frozen H4 11
    have j11 := (K.blk_cell H4 11).trans rfl
    clear kk hy A4
    go_wp2_with fail
    refine bodyPost_ret (results_cell (ct := 35) rfl rfl (set12 H4) Try.underlying35 rfl (by kernel_rfl)) rfl ?_
    exact ⟨by rw [HY.out], upd12 U4.out (by have := HEW.out; omega)⟩
  · go_upto_region 8 with (fail)
    go_region
    go_upto_region 9 with (fail)
    obtain ⟨V3, hV3⟩ : ∃ V3, V3 = (V.setCell ⟨E, c, none⟩ (.int .i64 ((xc : Int) + (v : Int)))).drew := ⟨_, rfl⟩
    have A3 : Arr V3 E 35 12 (stf (half s i ⟨3, c, v⟩)) := by
      rw [hV3]
      exact show Arr (V.setCell _ _) E 35 12 _ from (HAV.out.set c _).congr (fun z _ => (stf_setC s c (s.c.getD c 0 + v) z SA.out.cl hc4).trans (by rw [← HXC.out]; rfl))
    have U3 := hid (show Upd [] w V3 by rw [hV3]; exact (UV.out.setCell (.inr HEW.out) _).drew)
    have HR3 : Hid (V3.heap[E + 1]? = some (.cells #[.int .i64 0, .int .i64 0, .int .i64 0, .int .i64 0, .int .i64 0, .int .i64 0, .int .i64 0, .int .i64 0, .int .i64 0, .int .i64 0, .int .i64 0, .int .i64 0] 35 (0, 0))) := by rw [hV3]; exact K.blk_far HRV.out (by simp) _
    have q6 : V3.cell? ⟨E, 8 + i, none⟩ = some (.int .i64 (ai : Int)) := A3.val (by omega) (by rw [stf_half8]; exact ha8.out)
    have p6 := A3.fro (8 + i)
    have HA3 := hid A3
    rw [← hV3]
    clear hV3 A3 q0 q1 q2 q3 q4 q5 p3 p4 p5 lE2 lY2 hEY HAV UV HRV
    go_upto_region 10 with (fail)
    obtain ⟨V4, hV4⟩ : ∃ V4, V4 = V3.setCell ⟨E, 8 + i, none⟩ (.int .i64 ((ai : Int) + 1)) := ⟨_, rfl⟩
    have A4 : Arr V4 E 35 12 (stf F) := by
      rw [hV4, HF.out]
      exact (HA3.out.set (8 + i) _).congr (fun z _ => (stf_setA (half s i ⟨3, c, v⟩) i (ai + 1) z (half_al SA.out i _) hi4).trans (by split <;> rfl))
    have U4 := hid (show Upd [] w V4 by rw [hV4]; exact U3.out.setCell (.inr HEW.out) _)
    have H4 : V4.heap[E + 1]? = some (.cells #[.int .i64 0, .int .i64 0, .int .i64 0, .int .i64 0, .int .i64 0, .int .i64 0, .int .i64 0, .int .i64 0, .int .i64 0, .int .i64 0, .int .i64 0, .int .i64 0] 35 (0, 0)) := by rw [hV4]; exact K.blk_far HR3.out (by simp) _
    rw [← hV4]
    clear hV4 q6 p6 HA3 HR3 U3
    obtain ⟨y0, y1, y2, y3, y4, y5, y6, y7, y8, y9, y10, y11, hy⟩ := st_open F
    have kk : ∀ z, z < 12 → V4.cell? ⟨E, z, none⟩ = some ((stl F).getD z undef) := fun z hz => A4.val hz (stl_stf F z hz).symm
    have HY := hid hy
    rw [hy] at kk
    have k0 := kk 0 (by decide)
    have k1 := kk 1 (by decide)
    have k2 := kk 2 (by decide)
    have k3 := kk 3 (by decide)
    have k4 := kk 4 (by decide)
    have k5 := kk 5 (by decide)
    have k6 := kk 6 (by decide)
    have k7 := kk 7 (by decide)
    have k8 := kk 8 (by decide)
    have k9 := kk 9 (by decide)
    have k10 := kk 10 (by decide)
    have k11 := kk 11 (by decide)
    simp only [List.getD_cons_zero, List.getD_cons_succ] at k0 k1 k2 k3 k4 k5 k6 k7 k8 k9 k10 k11
    have g0 := K.blk_frozen H4 0
    have j0 := (K.blk_cell H4 0).trans rfl
    have g1 := K.blk_frozen H4 1
    have j1 := (K.blk_cell H4 1).trans rfl
    have g2 := K.blk_frozen H4 2
    have j2 := (K.blk_cell H4 2).trans rfl
    have g3 := K.blk_frozen H4 3
    have j3 := (K.blk_cell H4 3).trans rfl
    have g4 := K.blk_frozen H4 4
    have j4 := (K.blk_cell H4 4).trans rfl
    have g5 := K.blk_frozen H4 5
    have j5 := (K.blk_cell H4 5).trans rfl
    have g6 := K.blk_frozen H4 6
    have j6 := (K.blk_cell H4 6).trans rfl
    have g7 := K.blk_frozen H4 7
    have j7 := (K.blk_cell H4 7).trans rfl
    have g8 := K.blk_frozen H4 8
    have j8 := (K.blk_cell H4 8).trans rfl
    have g9 := K.blk_frozen H4 9
    have j9 := (K.blk_cell H4 9).trans rfl
    have g10 := K.blk_frozen H4 10
    have j10 := (K.blk_cell H4 10).trans rfl
    have g11 := K.blk_frozen H4 11
    have j11 := (K.blk_cell H4 11).trans rfl
    clear kk hy A4
    go_wp2_with fail
    refine bodyPost_ret (results_cell (ct := 35) rfl rfl (set12 H4) Try.underlying35 rfl (by kernel_rfl)) rfl ?_
    exact ⟨by rw [HY.out], upd12 U4.out (by have := HEW.out; omega)⟩
  · go_upto_region 9 with (fail)
    obtain ⟨V3, hV3⟩ : ∃ V3, V3 = V := ⟨_, rfl⟩
    have A3 : Arr V3 E 35 12 (stf (half s i ⟨4, c, v⟩)) := by
      rw [hV3]
      exact HAV.out
    have U3 := hid (show Upd [] w V3 by rw [hV3]; exact UV.out)
    have HR3 : Hid (V3.heap[E + 1]? = some (.cells #[.int .i64 0, .int .i64 0, .int .i64 0, .int .i64 0, .int .i64 0, .int .i64 0, .int .i64 0, .int .i64 0, .int .i64 0, .int .i64 0, .int .i64 0, .int .i64 0] 35 (0, 0))) := by rw [hV3]; exact HRV.out
    have q6 : V3.cell? ⟨E, 8 + i, none⟩ = some (.int .i64 (ai : Int)) := A3.val (by omega) (by rw [stf_half8]; exact ha8.out)
    have p6 := A3.fro (8 + i)
    have HA3 := hid A3
    rw [← hV3]
    clear hV3 A3 q0 q1 q2 q3 q4 q5 p3 p4 p5 lE2 lY2 hEY HAV UV HRV
    go_upto_region 10 with (fail)
    obtain ⟨V4, hV4⟩ : ∃ V4, V4 = V3.setCell ⟨E, 8 + i, none⟩ (.int .i64 ((ai : Int) + 1)) := ⟨_, rfl⟩
    have A4 : Arr V4 E 35 12 (stf F) := by
      rw [hV4, HF.out]
      exact (HA3.out.set (8 + i) _).congr (fun z _ => (stf_setA (half s i ⟨4, c, v⟩) i (ai + 1) z (half_al SA.out i _) hi4).trans (by split <;> rfl))
    have U4 := hid (show Upd [] w V4 by rw [hV4]; exact U3.out.setCell (.inr HEW.out) _)
    have H4 : V4.heap[E + 1]? = some (.cells #[.int .i64 0, .int .i64 0, .int .i64 0, .int .i64 0, .int .i64 0, .int .i64 0, .int .i64 0, .int .i64 0, .int .i64 0, .int .i64 0, .int .i64 0, .int .i64 0] 35 (0, 0)) := by rw [hV4]; exact K.blk_far HR3.out (by simp) _
    rw [← hV4]
    clear hV4 q6 p6 HA3 HR3 U3
    obtain ⟨y0, y1, y2, y3, y4, y5, y6, y7, y8, y9, y10, y11, hy⟩ := st_open F
    have kk : ∀ z, z < 12 → V4.cell? ⟨E, z, none⟩ = some ((stl F).getD z undef) := fun z hz => A4.val hz (stl_stf F z hz).symm
    have HY := hid hy
    rw [hy] at kk
    have k0 := kk 0 (by decide)
    have k1 := kk 1 (by decide)
    have k2 := kk 2 (by decide)
    have k3 := kk 3 (by decide)
    have k4 := kk 4 (by decide)
    have k5 := kk 5 (by decide)
    have k6 := kk 6 (by decide)
    have k7 := kk 7 (by decide)
    have k8 := kk 8 (by decide)
    have k9 := kk 9 (by decide)
    have k10 := kk 10 (by decide)
    have k11 := kk 11 (by decide)
    simp only [List.getD_cons_zero, List.getD_cons_succ] at k0 k1 k2 k3 k4 k5 k6 k7 k8 k9 k10 k11
    have g0 := K.blk_frozen H4 0
    have j0 := (K.blk_cell H4 0).trans rfl
    have g1 := K.blk_frozen H4 1
    have j1 := (K.blk_cell H4 1).trans rfl
    have g2 := K.blk_frozen H4 2
    have j2 := (K.blk_cell H4 2).trans rfl
    have g3 := K.blk_frozen H4 3
    have j3 := (K.blk_cell H4 3).trans rfl
    have g4 := K.blk_frozen H4 4
    have j4 := (K.blk_cell H4 4).trans rfl
    have g5 := K.blk_frozen H4 5
    have j5 := (K.blk_cell H4 5).trans rfl
    have g6 := K.blk_frozen H4 6
    have j6 := (K.blk_cell H4 6).trans rfl
    have g7 := K.blk_frozen H4 7
    have j7 := (K.blk_cell H4 7).trans rfl
    have g8 := K.blk_frozen H4 8
    have j8 := (K.blk_cell H4 8).trans rfl
    have g9 := K.blk_frozen H4 9
    have j9 := (K.blk_cell H4 9).trans rfl
    have g10 := K.blk_frozen H4 10
    have j10 := (K.blk_cell H4 10).trans rfl
    have g11 := K.blk_frozen H4 11
    have j11 := (K.blk_cell H4 11).trans rfl
    clear kk hy A4
    go_wp2_with fail
    refine bodyPost_ret (results_cell (ct := 35) rfl rfl (set12 H4) Try.underlying35 rfl (by kernel_rfl)) rfl ?_
    exact ⟨by rw [HY.out], upd12 U4.out (by have := HEW.out; omega)⟩
end Go.Proofs.Ytklacfdbpmkiiaa.Y
