/- The walks of cut.Join and cut.Meet, of the laws' inside and Cut, and of cutBegun. -/
import Derived.Test.YtcdladnbcamgjaaCv
namespace Go.Proofs.Ytcdladnbcamgjaa.Cw
open Go Go.RowKit Go.Proofs.Ytcdladnbcamgjaa.K Go.Proofs.Ytcdladnbcamgjaa.M Go.Proofs.Ytcdladnbcamgjaa.Ev Go.Proofs.Ytcdladnbcamgjaa.Ck Go.Proofs.Ytcdladnbcamgjaa.O Go.Proofs.Ytcdladnbcamgjaa.R Go.Proofs.Ytcdladnbcamgjaa.CL Go.Proofs.Ytcdladnbcamgjaa.CW Go.Proofs.Ytcdladnbcamgjaa.Th Go.Proofs.Ytcdladnbcamgjaa.Cu Go.Proofs.Ytcdladnbcamgjaa.CuT Go.Proofs.Ytcdladnbcamgjaa.Ah Go.Proofs.Ytcdladnbcamgjaa.Cv

theorem arr_of_own {w : World} {base : Nat} {e : TypeId} {n : Nat} {v : Value} {xs : List Value} (h : w.ownsRow base e 1 v n xs) (hn : 0 < n) : ∃ g cap, v = .slice (some ⟨g, 0, none⟩) n cap ∧ base ≤ g ∧ Arr w g e n (fun z => xs.getD z undef) := by
  have hl := h.1
  rcases h.2 with ⟨rfl, hx⟩ | ⟨g, cap, cur, rfl, hb, hg, h1, h2, h3, h4⟩
  · subst hx; simp at hl; omega
  · have hcl : (cur.toList.take (n * 1)).length = n * 1 := by rw [h4]; exact hl
    refine ⟨g, cap, rfl, hb, cur, hg, by simp at hcl; omega, fun z hz => ?_⟩
    have hz2 : z < xs.length := by omega
    rw [← Array.getElem?_toList]
    have e2 : (cur.toList.take (n * 1))[z]? = xs[z]? := by rw [h4]
    rw [List.getElem?_take, if_pos (by omega)] at e2
    rw [e2]; simp [List.getD_eq_getElem?_getD, hz2]
theorem ints_getD (c : List Int) (z : Nat) (hz : z < c.length) : (ints c).getD z undef = .int .i64 (c.getD z 0) := by
  rw [List.getD_eq_getElem?_getD, ints_get c z hz]; rfl
theorem cloneC (g cc : Nat) (c : List Int) (w : World) (h : IntRow w (some ⟨g, 0, none⟩) c) (hl : c.length = 8) :
    Calls Try.prog 39 #[.slice (some ⟨g, 0, none⟩) 8 cc] w fun e w' => ∃ g' c', e = .returned (.slice (some ⟨g', 0, none⟩) 8 c') ∧ w.heap.size ≤ g' ∧ Arr w' g' 3 8 (fun z => .int .i64 (c.getD z 0)) ∧ Upd [] w w' := by
  refine (Try.slices_Clone_int g 0 8 cc c w (by omega) (by omega) (fun j hj => by rw [Nat.zero_add]; exact IntRow.arr h hj)).mono ?_
  rintro e w' ⟨v', rfl, ho, _, hb⟩
  rw [List.take_of_length_le (by omega)] at ho
  obtain ⟨g', c', rfl, h1, h2⟩ := arr_of_own ho (by omega)
  exact ⟨g', c', rfl, h1, h2.congr (fun z hz => (ints_getD c z (by omega)).symm), Upd.of_below hb []⟩
theorem join8 (g cc : Nat) (c : List Int) (g' cc' : Nat) (d : List Int) (w : World) (h : IntRow w (some ⟨g, 0, none⟩) c) (hl : c.length = 8) (h' : IntRow w (some ⟨g', 0, none⟩) d) (hl' : d.length = 8) :
    Calls Try.prog 59 #[.slice (some ⟨g, 0, none⟩) 8 cc, .slice (some ⟨g', 0, none⟩) 8 cc'] w fun e w' => ∃ g4 c4, e = .returned (.slice (some ⟨g4, 0, none⟩) 8 c4) ∧ IntRow w' (some ⟨g4, 0, none⟩) (joinL c d) ∧ Upd [] w w' := by
  refine (join_any _ 8 _ c _ 8 _ d w h hl h' hl' (by omega) (by omega)).mono ?_
  rintro e w4 ⟨vj, rfl, hoj, huj⟩
  have hjl8 : (joinL c d).length = 8 := by rw [joinL_length, hl, hl']; rfl
  rw [hjl8] at hoj
  obtain ⟨g4, c4, rfl, -, ha⟩ := arr_of_own hoj (by omega)
  exact ⟨g4, c4, rfl, Arr.row (ha.congr (fun z hz => (ints_getD _ z (by omega)).symm)) hjl8, huj⟩

section
variable (a : Option Addr) (cap : Nat) (l : List Ev) (g cc : Nat) (c : List Int) (g2 cc2 : Nat) (d : List Int) (w : World) (hx : EvRow w a l) (hlc : l.length ≤ cap) (hcp : cap ≤ 9223372036854775807) (hn : l.length ≤ 200) (hv : Valid l)
  (hc : IntRow w (some ⟨g, 0, none⟩) c) (hvc : VCut l c) (hd : IntRow w (some ⟨g2, 0, none⟩) d) (hvd : VCut l d)
include hx hlc hcp hn hv hc hvc hd hvd
theorem check2 : Calls Try.prog 61 #[.slice a l.length cap, .slice (some ⟨w.heap.size, 0, none⟩) 2 2] (w.alloc (.cells #[.slice (some ⟨g, 0, none⟩) 8 cc, .slice (some ⟨g2, 0, none⟩) 8 cc2] 22)) fun e w' => e = .returned (.int .i64 0) ∧ Upd [] w w' :=
  (check_ok a cap l (some ⟨w.heap.size, 0, none⟩) 2 2 _ (hx.upd ((Upd.refl [] w).alloc _)) hlc hcp hn hv (cutRow2 hc hvc hd hvd) (by omega)).mono fun _ _ ⟨he, hu⟩ => ⟨he, ((Upd.refl [] w).alloc _).trans hu (by simp)⟩

set_option maxHeartbeats 4000000 in
set_option maxRecDepth 100000 in
theorem join_call : Calls Try.prog 38 #[.slice a l.length cap, .slice (some ⟨g, 0, none⟩) 8 cc, .slice (some ⟨g2, 0, none⟩) 8 cc2] w fun e w' => ∃ g' c', e = .returned (.tuple #[.slice (some ⟨g', 0, none⟩) 8 c', .int .i64 0]) ∧ IntRow w' (some ⟨g', 0, none⟩) (joinL c d) ∧ Upd [] w w' := by
  have c1 := check2 a cap l g cc c g2 cc2 d w hx hlc hcp hn hv hc hvc hd hvd
  have c2 := fun (w1 : World) (u : Upd [] w w1) => join8 g cc c g2 cc2 d w1 (hc.upd u) hvc.len (hd.upd u) hvd.len
  obtain ⟨n, hnl⟩ : ∃ n, n = l.length := ⟨_, rfl⟩
  rw [← hnl] at c1 ⊢
  have C2 := hid c2
  clear hnl hx hv hc hvc hn hlc hcp c2 hd hvd
  go_enter Try.func38, Try.ntmps38
  go_wp2_with fail
  refine c1.mono ?_
  rintro e w1 ⟨rfl, hu⟩
  have U1 := hid hu
  clear c1 hu
  go_wp2_with fail
  refine (C2.out w1 U1.out).mono ?_
  rintro e w2 ⟨g4, c4, rfl, hr, hu⟩
  have U2 := hid (U1.out.trans hu (by simp))
  have R := hid hr
  clear hu C2 U1 hr
  go_wp2_with fail
  go_ret2
  exact ⟨g4, c4, rfl, R.out, U2.out⟩

set_option maxHeartbeats 4000000 in
set_option maxRecDepth 100000 in
theorem meet_call : Calls Try.prog 40 #[.slice a l.length cap, .slice (some ⟨g, 0, none⟩) 8 cc, .slice (some ⟨g2, 0, none⟩) 8 cc2] w fun e w' => ∃ g' c', e = .returned (.tuple #[.slice (some ⟨g', 0, none⟩) 8 c', .int .i64 0]) ∧ IntRow w' (some ⟨g', 0, none⟩) (meetL c d) ∧ Upd [] w w' := by
  have c1 := check2 a cap l g cc c g2 cc2 d w hx hlc hcp hn hv hc hvc hd hvd
  have c2 := fun (w1 : World) (u : Upd [] w w1) => cloneC g cc c w1 (hc.upd u) hvc.len
  obtain ⟨n, hnl⟩ : ∃ n, n = l.length := ⟨_, rfl⟩
  rw [← hnl] at c1 ⊢
  have C2 := hid c2
  have HD := hid hd
  have HCL := hid hvc.len
  have HDL := hid hvd.len
  clear hnl hx hv hc hvc hn hlc hcp c2 hd hvd
  go_enter Try.func40, Try.ntmps40
  go_wp2_with fail
  refine c1.mono ?_
  rintro e w1 ⟨rfl, hu⟩
  have U1 := hid hu
  clear c1 hu
  go_wp2_with fail
  refine (C2.out w1 U1.out).mono ?_
  rintro e w2 ⟨g4, c4, rfl, hge, ha, hu⟩
  have U2 := hid (U1.out.trans hu (by simp))
  have A2 := hid ha
  have GE := hid (show w.heap.size ≤ g4 by have := U1.out.size; omega)
  have D2 := hid (HD.out.upd U2.out)
  clear hu C2 U1 ha hge
  go_wp2_with fail
  go_loopg [23] 8 (fun e v23 wr => ∃ (i : Nat), v23 = .int .i64 (i : Int) ∧ i ≤ 8 ∧ Hid (i + e = 8) ∧ Hid (Arr wr g4 3 8 (fun z => .int .i64 (if z < i then min (c.getD z 0) (d.getD z 0) else c.getD z 0))) ∧ Hid (Upd [] w wr))
  case atStart => exact ⟨0, rfl, by omega, by show _ = _; omega, A2.out, U2.out⟩
  case round =>
    clear A2 U2
    obtain ⟨i, rfl, hi8, Hi, Ha, Hu⟩ := hrel
    by_cases hi : i < 8
    · have hi' : (i : Int) < 8 := by omega
      obtain ⟨x, hx⟩ : ∃ x, x = c.getD i 0 := ⟨_, rfl⟩
      obtain ⟨y, hy⟩ : ∃ y, y = d.getD i 0 := ⟨_, rfl⟩
      have q1 := Ha.out.val hi (v := .int .i64 x) (by rw [if_neg (by omega), hx])
      have q2 := Ha.out.fro i
      have q3 := IntRow.arr (HD.out.upd Hu.out) (i := i) (by rw [HDL.out]; exact hi)
      rw [← hy] at q3
      obtain ⟨m, hm⟩ : ∃ m, m = min x y := ⟨_, rfl⟩
      have hmin : ∀ ats ty, Builtin.min_ ats ty #[.int .i64 x, .int .i64 y] = pure (.int .i64 m) := fun ats ty => by
        have e : (if y < x then y else x) = m := by rw [hm]; split <;> omega
        simp only [Builtin.min_, List.foldlM_cons, List.foldlM_nil, Builtin.min2, e]; rfl
      have HX := hid hx
      have HY := hid hy
      have HM := hid hm
      clear hx hy hm
      go_wp2_with fail
      refine region_tail 12 (by kernel_rfl) (by kernel_rfl) ?_
      simp only [List.take_succ_cons, List.take_zero, List.drop_succ_cons, List.drop_zero]
      repeat still_step
      refine wpStill_nil ?_
      go_wp2_with fail
      go_roundg (8 - (i + 1))
      case measure => have := Hi.out; omega
      case rel =>
        refine ⟨i + 1, by go_num, by omega, by show _ = _; omega, ?_, (Hu.out.setCell (.inr GE.out) _).drew⟩
        refine (Ha.out.set i _).congr (fun z hz => ?_)
        by_cases e : z = i
        · subst e; rw [if_pos rfl, if_pos (by omega), HM.out, HX.out, HY.out]
        · rw [if_neg e]
          by_cases e2 : z < i
          · rw [if_pos e2, if_pos (by omega)]
          · rw [if_neg e2, if_neg (by omega)]
    · obtain rfl : i = 8 := by omega
      go_wp2_with fail
      go_ret2
      refine ⟨g4, c4, rfl, Arr.row (n := 8) (t := 3) (Ha.out.congr (fun z hz => ?_)) (meet_len c d), Hu.out⟩
      rw [if_pos hz, meet_get _ _ _ hz]
end

/-- Is a cut in another one? -/
def leB (c d : List Int) : Bool := (List.range 8).all (fun p => decide (c.getD p 0 ≤ d.getD p 0))
theorem leB_iff (c d : List Int) : leB c d = true ↔ Le c d := by
  unfold leB Le
  simp only [List.all_eq_true, List.mem_range, decide_eq_true_eq]

set_option maxHeartbeats 4000000 in
set_option maxRecDepth 100000 in
theorem inside_law (g cc : Nat) (c : List Int) (g2 cc2 : Nat) (d : List Int) (w : World) (hc : IntRow w (some ⟨g, 0, none⟩) c) (hcl : c.length = 8) (hd : IntRow w (some ⟨g2, 0, none⟩) d) (hdl : d.length = 8) :
    Calls Try.prog 37 #[.slice (some ⟨g, 0, none⟩) 8 cc, .slice (some ⟨g2, 0, none⟩) 8 cc2] w fun e w' => e = .returned (.bool (leB c d)) ∧ ∃ q, w' = w.drewN q := by
  have HC := hid hc
  have HD := hid hd
  have HCL := hid hcl
  have HDL := hid hdl
  clear hc hd hcl hdl
  go_enter Try.func37, Try.ntmps37
  go_wp2_with fail
  go_loopg [13] 8 (fun e v13 wr => ∃ (i : Nat), v13 = .int .i64 (i : Int) ∧ i ≤ 8 ∧ Hid (i + e = 8) ∧ Hid (∀ p, p < i → c.getD p 0 ≤ d.getD p 0) ∧ Hid (∃ q, wr = w.drewN q))
  case atStart => exact ⟨0, rfl, by omega, by show _ = _; omega, hid (fun p hp => by omega), ⟨0, rfl⟩⟩
  case round =>
    obtain ⟨i, rfl, hi8, Hi, Hle, Hq⟩ := hrel
    obtain ⟨q, rfl⟩ := Hq.out
    by_cases hi : i < 8
    · have hi' : (i : Int) < 8 := by omega
      obtain ⟨x, hx⟩ : ∃ x, x = c.getD i 0 := ⟨_, rfl⟩
      obtain ⟨y, hy⟩ : ∃ y, y = d.getD i 0 := ⟨_, rfl⟩
      have q2 := IntRow.arr HC.out (i := i) (by rw [HCL.out]; exact hi)
      have q3 := IntRow.arr HD.out (i := i) (by rw [HDL.out]; exact hi)
      rw [← hx] at q2
      rw [← hy] at q3
      have HX := hid hx
      have HY := hid hy
      clear hx hy
      by_cases hlt : y < x
      · have t1 : decide (y < x) = true := by rw [decide_eq_true_eq]; exact hlt
        clear Hle
        go_wp2_with fail
        go_quiet (fail)
        go_wp2_with fail
        go_ret
        refine ⟨ret_bool ?_, ⟨q + nq, by simp⟩⟩
        have : leB c d = false := by
          rw [Bool.eq_false_iff]; intro h; have := (leB_iff c d).1 h i hi; rw [← HX.out, ← HY.out] at this; omega
        rw [this]
      · have t1 : decide (y < x) = false := by rw [decide_eq_false_iff_not]; exact hlt
        go_wp2_with fail
        go_quiet (fail)
        go_wp2_with fail
        go_roundg (8 - (i + 1))
        case measure => have := Hi.out; omega
        case rel =>
          refine ⟨i + 1, by go_num, by omega, by show _ = _; omega, hid (fun p hp => ?_), ⟨q + nq, by show _ = _; simp⟩⟩
          by_cases e : p = i
          · subst e; rw [← HX.out, ← HY.out]; omega
          · exact Hle.out p (by omega)
    · obtain rfl : i = 8 := by omega
      have e : leB c d = true := (leB_iff c d).2 Hle.out
      have HE := hid e
      clear e
      go_wp2_with fail
      go_ret
      exact ⟨ret_bool (by rw [HE.out]), ⟨_, rfl⟩⟩

set_option maxHeartbeats 8000000 in
set_option maxRecDepth 100000 in
theorem cut_law (a : Option Addr) (cap : Nat) (l : List Ev) (b : Option Addr) (m mc : Nat) (ys : List Int) (w : World) (hx : EvRow w a l) (hn : l.length ≤ 200) (hv : Valid l) (hb : IntRow w b ys) (hyl : ys.length = m) :
    Calls Try.prog 35 #[.slice a l.length cap, .slice b m mc] w fun e w' => ∃ C c, e = .returned (.slice (some ⟨C, 0, none⟩) 8 8) ∧ IntRow w' (some ⟨C, 0, none⟩) c ∧ VCut l c ∧ Upd [] w w' := by
  obtain ⟨n, hnl⟩ : ∃ n, n = l.length := ⟨_, rfl⟩
  rw [← hnl] at hn ⊢
  have HX := hid hx
  have HN := hid hnl
  have HV := hid hv
  have HB := hid hb
  have HYL := hid hyl
  clear hx hnl hv hb hyl
  have hmk := make8
  obtain ⟨C, hC⟩ : ∃ C, C = w.heap.size := ⟨_, rfl⟩
  have A0 : Hid (Arr (w.alloc (.cells (ints zero8).toArray 3)) C 3 8 (fun p => .int .i64 ((cnt l p 0 : Nat) : Int))) := by
    rw [hC]; exact arr_new w _ 3 8 _ rfl (fun z hz => ints_zero_get z hz)
  have U0 : Hid (Upd [] w (w.alloc (.cells (ints zero8).toArray 3))) := (Upd.refl _ _).alloc _
  have HC := hid hC
  have CW := hid (show w.heap.size ≤ C by omega)
  go_enter Try.func35, Try.ntmps35
  go_wp2_with fail
  rw [← hC]
  clear hC
  go_loopg [13] n (fun d v13 wr => ∃ (i : Nat), v13 = .int .i64 (i : Int) ∧ i ≤ n ∧ Hid (i + d = n) ∧ Hid (Arr wr C 3 8 (fun p => .int .i64 ((cnt l p i : Nat) : Int))) ∧ Hid (Upd [] w wr))
  case atStart => exact ⟨0, rfl, by omega, by show _ = _; omega, A0.out, U0.out⟩
  case round =>
    clear A0 U0
    obtain ⟨i, rfl, hin, Hi, Ha, Hu⟩ := hrel
    by_cases hi : i < n
    · obtain ⟨g, rfl, c0, c1, c2⟩ := HX.out.upd Hu.out i (by rw [← HN.out]; exact hi)
      have hp8 := (HV.out i (by rw [← HN.out]; exact hi)).p8
      obtain ⟨⟨pl, kd, ms⟩, hev⟩ : ∃ ev, ev = l.getD i noEv := ⟨_, rfl⟩
      rw [← hev] at c0 c1 c2 hp8
      simp only at c0 c1 c2 hp8
      have HE := hid hev
      clear hev
      obtain ⟨x, hx⟩ : ∃ x, x = cnt l pl i := ⟨_, rfl⟩
      have hxl : x ≤ 200 := by have := cnt_le l pl i; omega
      have q : ∀ o, (wr.alloc o).cell? ⟨C, pl, none⟩ = some (.int .i64 (x : Int)) := fun o => by rw [hx]; exact (Ha.out.alloc o).cell hp8
      have qf : ∀ o, (wr.alloc o).frozen? ⟨C, pl, none⟩ = false := fun o => (Ha.out.alloc o).fro pl
      have HXX := hid hx
      clear hx
      go_wp2_with fail
      go_roundg (n - (i + 1))
      case measure => have := Hi.out; omega
      case rel =>
        refine ⟨i + 1, by go_num, by omega, by show _ = _; omega, ?_, (Hu.out.alloc _).setCell (.inr CW.out) _⟩
        refine ((Ha.out.alloc _).set pl _).congr (fun z hz => ?_)
        have ep : (ev l i).place = pl := by show (l.getD i noEv).place = pl; rw [← HE.out]
        simp only [cnt, ep]
        by_cases e : z = pl
        · subst e; rw [if_pos rfl, if_pos rfl, ← HXX.out]; go_num
        · rw [if_neg e, if_neg (fun q => e q.symm)]; rfl
    · obtain rfl : i = n := by omega
      clear hmk Hi hin hi
      have A1 : Hid (Arr wr C 3 8 (fun p => .int .i64 (((if p < 0 then 0 else cnt l p l.length : Nat)) : Int))) := Ha.out.congr (fun z hz => by rw [if_neg (by omega), HN.out])
      have U1 := Hu
      clear Ha Hu
      go_wp2_with fail
      go_loopg [27] 8 (fun d v27 wq => ∃ (j : Nat) (f : Nat → Nat), v27 = .int .i64 (j : Int) ∧ j ≤ 8 ∧ Hid (j + d = 8) ∧ Hid (∀ p, f p ≤ cnt l p l.length) ∧ Hid (Arr wq C 3 8 (fun p => .int .i64 (((if p < j then f p else cnt l p l.length : Nat)) : Int))) ∧ Hid (Upd [] w wq))
      case atStart => exact ⟨0, fun _ => 0, rfl, by omega, by show _ = _; omega, hid (fun p => Nat.zero_le _), A1.out, U1.out⟩
      case round =>
        clear A1 U1
        obtain ⟨j, f, rfl, hj8, Hj, Hf, Ha, Hu⟩ := hrel
        by_cases hj : j < 8
        · have hj' : (j : Int) < 8 := by omega
          obtain ⟨x, hx⟩ : ∃ x, x = cnt l j l.length := ⟨_, rfl⟩
          have hxl : x ≤ 200 := by have := cnt_le l j l.length; have := HN.out; omega
          have q1 := Ha.out.val hj (v := .int .i64 (x : Int)) (by rw [if_neg (by omega), hx])
          have q2 := Ha.out.fro j
          have HXX := hid hx
          clear hx
          by_cases hjm : j < m
          · have hjm' : (j : Int) < (m : Int) := by omega
            obtain ⟨ad, rfl, q3⟩ := (HB.out.upd Hu.out) j (by rw [HYL.out]; exact hjm)
            go_wp2_with fail
            refine (rest_some _ _ _ (by omega) (by omega)).mono ?_
            rintro e w' ⟨r, hr, -, rfl, rfl⟩
            go_wp2_with fail
            go_roundg (8 - (j + 1))
            case measure => have := Hj.out; omega
            case rel =>
              refine ⟨j + 1, fun p => if p = j then r else f p, by go_num, by omega, by show _ = _; omega, hid (fun p => ?_), ?_, Hu.out.setCell (.inr CW.out) _⟩
              · show (if p = j then r else f p) ≤ _
                split
                · rename_i e; subst e; rw [← HXX.out]; omega
                · exact Hf.out p
              · refine (Ha.out.set j _).congr (fun z hz => ?_)
                by_cases e : z = j
                · subst e; rw [if_pos rfl, if_pos (by omega)]
                  show Value.int .i64 (((if z = z then r else f z : Nat)) : Int) = _
                  rw [if_pos rfl]
                · rw [if_neg e]
                  show Value.int .i64 (((if z < j + 1 then (if z = j then r else f z) else cnt l z l.length : Nat)) : Int) = _
                  rw [if_neg e]
                  by_cases e2 : z < j
                  · rw [if_pos e2, if_pos (by omega)]
                  · rw [if_neg e2, if_neg (by omega)]
          · have hjm' : ¬ (j : Int) < (m : Int) := by omega
            go_wp2_with fail
            refine (rest_some _ _ _ (by omega) (by omega)).mono ?_
            rintro e w' ⟨r, hr, -, rfl, rfl⟩
            go_wp2_with fail
            go_roundg (8 - (j + 1))
            case measure => have := Hj.out; omega
            case rel =>
              refine ⟨j + 1, fun p => if p = j then r else f p, by go_num, by omega, by show _ = _; omega, hid (fun p => ?_), ?_, Hu.out.setCell (.inr CW.out) _⟩
              · show (if p = j then r else f p) ≤ _
                split
                · rename_i e; subst e; rw [← HXX.out]; omega
                · exact Hf.out p
              · refine (Ha.out.set j _).congr (fun z hz => ?_)
                by_cases e : z = j
                · subst e; rw [if_pos rfl, if_pos (by omega)]
                  show Value.int .i64 (((if z = z then r else f z : Nat)) : Int) = _
                  rw [if_pos rfl]
                · rw [if_neg e]
                  show Value.int .i64 (((if z < j + 1 then (if z = j then r else f z) else cnt l z l.length : Nat)) : Int) = _
                  rw [if_neg e]
                  by_cases e2 : z < j
                  · rw [if_pos e2, if_pos (by omega)]
                  · rw [if_neg e2, if_neg (by omega)]
        · obtain rfl : j = 8 := by omega
          go_wp2_with fail
          go_ret
          have hg : ∀ p, p < 8 → ((List.range 8).map (fun p => ((f p : Nat) : Int))).getD p 0 = (f p : Int) := fun p hp => by
            simp only [List.getD_eq_getElem?_getD, List.getElem?_map, List.getElem?_range hp]; rfl
          refine ⟨C, (List.range 8).map (fun p => ((f p : Nat) : Int)), rfl, Arr.row (n := 8) (t := 3) (Ha.out.congr (fun z hz => ?_)) (by simp), ⟨by simp, fun p hp => ?_, fun p hp => ?_⟩, Hu.out⟩
          · rw [if_pos hz, hg z hz]
          · rw [hg p hp]; omega
          · rw [hg p hp]; have := Hf.out p; omega

theorem two_least : least two [0, 1, 0, 0, 0, 0, 0, 0] = [1, 1, 0, 0, 0, 0, 0, 0] := by decide
theorem two_vcut : VCut two [0, 1, 0, 0, 0, 0, 0, 0] := by
  refine ⟨rfl, fun p hp => ?_, fun p hp => ?_⟩
  · rcases (show p = 0 ∨ p = 1 ∨ p = 2 ∨ p = 3 ∨ p = 4 ∨ p = 5 ∨ p = 6 ∨ p = 7 by omega) with rfl | rfl | rfl | rfl | rfl | rfl | rfl | rfl <;> decide
  · rcases (show p = 0 ∨ p = 1 ∨ p = 2 ∨ p = 3 ∨ p = 4 ∨ p = 5 ∨ p = 6 ∨ p = 7 by omega) with rfl | rfl | rfl | rfl | rfl | rfl | rfl | rfl <;> decide
theorem row_of (w : World) (xs : List Int) : IntRow (w.alloc (.cells (ints xs).toArray 3)) (some ⟨w.heap.size, 0, none⟩) xs :=
  Arr.row (n := xs.length) (t := 3) (arr_new w _ 3 _ _ (by simp [ints]) (fun z hz => ints_get xs z hz)) rfl
theorem begun_least (w : World) : Calls Try.prog 34 #[.slice (some ⟨w.heap.size, 0, none⟩) 2 2, .slice (some ⟨w.heap.size + 1, 0, none⟩) 8 8]
    ((w.alloc (.cells #[.int .i64 0, .int .i64 2, .int .i64 5, .int .i64 1, .int .i64 3, .int .i64 5] 31)).alloc (.cells #[.int .i64 0, .int .i64 1, .int .i64 0, .int .i64 0, .int .i64 0, .int .i64 0, .int .i64 0, .int .i64 0] 3)) fun e w' =>
    ∃ g' c', e = .returned (.tuple #[.slice (some ⟨g', 0, none⟩) 8 c', .int .i64 0]) ∧ Hid (IntRow w' (some ⟨g', 0, none⟩) [1, 1, 0, 0, 0, 0, 0, 0]) ∧ Upd [] w w' := by
  have h := row_of (w.alloc (.cells #[.int .i64 0, .int .i64 2, .int .i64 5, .int .i64 1, .int .i64 3, .int .i64 5] 31)) [0, 1, 0, 0, 0, 0, 0, 0]
  rw [World.size_alloc] at h
  exact (least_call _ 2 two (w.heap.size + 1) 8 [0, 1, 0, 0, 0, 0, 0, 0] _ ((two_row w).upd ((Upd.refl [] _).alloc _)) (by decide) (by decide) (by decide) two_valid h two_vcut).mono
    fun e w' ⟨g', c', he, hr, hu⟩ => ⟨g', c', he, by rw [two_least] at hr; exact hr, (((Upd.refl [] w).alloc _).alloc _).trans hu (by simp)⟩

set_option maxHeartbeats 4000000 in
set_option maxRecDepth 100000 in
theorem cutBegun_any (w : World) : Calls Try.prog 32 #[] w fun e w' => e = .returned (.bool true) ∧ Upd [] w w' := by
  go_enter Try.func32, Try.ntmps32
  go_wp2_with fail
  refine (begun_least w).mono ?_
  rintro e w1 ⟨g', c', rfl, HR, hu⟩
  have HU := hid hu
  clear hu
  go_wp2_with fail
  refine (begun_equal w1 g' c' HR.out).mono ?_
  rintro e w2 ⟨rfl, hu⟩
  have HU2 := hid (HU.out.trans hu (by simp))
  clear hu HU
  go_wp2_with fail
  go_ret
  exact ⟨rfl, HU2.out⟩
end Go.Proofs.Ytcdladnbcamgjaa.Cw
