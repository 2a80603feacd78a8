/- The walk of the statement PartNormal. -/
import Derived.Test.YtnikkakeiajmgaaPu
namespace Go.Proofs.Ytnikkakeiajmgaa.Pv
open Go Go.RowKit Go.Proofs.Ytnikkakeiajmgaa Go.Proofs.Ytnikkakeiajmgaa.K Go.Proofs.Ytnikkakeiajmgaa.M Go.Proofs.Ytnikkakeiajmgaa.O Go.Proofs.Ytnikkakeiajmgaa.R Go.Proofs.Ytnikkakeiajmgaa.Pt Go.Proofs.Ytnikkakeiajmgaa.Pa

theorem proj_of_pairs {a b : List St} (h : (pairs depS a).Perm (pairs depS b)) : Proj depS a b := fun S hS => by
  have key : ∀ l : List St, ((pairs depS l).filter (fun p => S p.1)).Pairwise (fun x y => x.2 < y.2) := fun l =>
    List.pairwise_filter.2 ((good_pairs depS l).up.imp (fun {x y} hxy h1 h2 => hxy (hS _ _ h1 h2)))
  have e := up_eq (fun p : St × Nat => p.2) (h.filter (fun p => S p.1)) (key a) (key b)
  have e1 : ∀ l : List St, l.filter S = ((pairs depS l).filter (fun p => S p.1)).map (·.1) := fun l => by
    conv => lhs; rw [← pairs_fst depS l]
    rw [List.filter_map]; rfl
  rw [e1, e1, e]
theorem normal_eq {L M x y : List St} (hx : Nrm depS whoS L x) (hy : Nrm depS whoS M y) : x = y ↔ Proj depS L M := by
  constructor
  · intro e
    subst e
    exact proj_of_pairs ((hx.pairs depS whoS depS_comm []).trans (hy.pairs depS whoS depS_comm []).symm)
  · intro h
    exact hx.unique depS whoS depS_who depS_comm h hy
theorem normal_same {L x : List St} (hx : Nrm depS whoS L x) : Proj depS L x := proj_of_pairs (hx.pairs depS whoS depS_comm [])

set_option maxHeartbeats 16000000 in
set_option maxRecDepth 100000 in
theorem the_walk (a0 : Option Addr) (len0 cap0 : Nat) (z0 : List Int) (a1 : Option Addr) (len1 cap1 : Nat) (z1 : List Int) (w : World) (hx : IntRow w a0 z0) (hl : z0.length = len0) (hlc : len0 ≤ cap0) (hc : cap0 ≤ 9223372036854775807) (hx1 : IntRow w a1 z1) (hl1 : z1.length = len1) (hlc1 : len1 ≤ cap1) (hc1 : cap1 ≤ 9223372036854775807) :
    Calls Try.prog 6 #[.slice a0 len0 cap0, .slice a1 len1 cap1] w fun e w' => e = .returned (.bool true) ∧ Upd [] w w' := by
  have HX := hid hx
  have HL := hid hl
  have HX1 := hid hx1
  have HL1 := hid hl1
  clear hx hl hx1 hl1
  have BG := hid (begun_any w)
  go_enter Try.func6, Try.ntmps6
  go_wp2_with fail
  refine BG.out.mono ?_
  rintro e w1 ⟨rfl, hu⟩
  have U1 := hid hu
  have ST := hid (steps_any a0 len0 cap0 z0 w1 (HX.out.upd U1.out) HL.out hlc hc)
  clear hu BG
  go_wp2_with fail
  refine ST.out.mono ?_
  rintro e w2 ⟨va, rfl, L, ho, h40, hu⟩
  have U2 := hid (U1.out.trans hu (fun t ht => by cases ht))
  obtain ⟨B, hB⟩ : ∃ B, B = w1.heap.size := ⟨_, rfl⟩
  rw [← hB] at ho
  have A2 := hid ho
  have L40 := hid h40
  have CL := hid (clone_steps va L w2 B ho (by omega))
  clear hu ho ST U1 hB
  obtain ⟨B2, hB2⟩ : ∃ B2, B2 = w2.heap.size := ⟨_, rfl⟩
  have HB2 := hid hB2
  rw [← hB2] at CL
  clear hB2 hlc hc
  go_wp2_with fail
  refine CL.out.mono ?_
  rintro e w3 ⟨vb, rfl, ho, hu⟩
  have U3 := hid (U2.out.trans hu (fun t ht => by cases ht))
  have A3 := hid (A2.out.new hu)
  have B3 := hid ho
  have WB2 := hid (show w.heap.size ≤ B2 by rw [HB2.out]; exact U2.out.size)
  have NV := hid (fun t (ht : va.ownBlock = some t) t' (ht' : vb.ownBlock = some t') => (show t ≠ t' from fun e => by
    have := own_lt A2.out t ht
    have := own_ge ho t' ht'
    have := HB2.out
    omega))
  clear hu ho CL A2 U2 HB2
  obtain ⟨n, hn⟩ : ∃ n, n = L.length := ⟨_, rfl⟩
  have HN := hid hn
  obtain ⟨a2, k2, rfl, -, -⟩ := A3.out.view
  obtain ⟨b2, k3, rfl, hbk, hbk2⟩ := B3.out.view
  rw [← hn] at A3 B3 NV h40 ⊢
  clear hn hbk hbk2
  obtain ⟨m, hm⟩ : ∃ m : Nat, min (len1 : Int) 60 = (m : Int) := ⟨min len1 60, by omega⟩
  have hmin := fun ats ty => min_nat ats ty .i64 .i64 (len1 : Int) 60 m hm
  have hm1 : m ≤ len1 := by omega
  have hm2 : m ≤ 60 := by omega
  have sl1 : (m : Int) ≤ (cap1 : Int) := by omega
  have sl2 : (m : Int) ≤ (len1 : Int) := by omega
  clear hm
  go_wp2_with fail
  go_loopg [36] m (fun d v36 wr => ∃ (r : Nat) (M : List St), v36 = .int .i64 (r : Int) ∧ r ≤ m ∧ Hid (r + d = m) ∧ Hid (StepsOf wr B (.slice a2 n k2) L) ∧ Hid (StepsOf wr B2 (.slice b2 n k3) M) ∧ Hid (n = M.length) ∧ Hid (Upd [] w wr))
  case atStart => exact ⟨0, L, rfl, by omega, hid (by omega), A3, B3, HN, U3⟩
  case round =>
    clear A3 B3 U3
    obtain ⟨r, M, rfl, hr, Hr, HA, HB, HM, HU⟩ := hrel
    by_cases hrm : r < m
    · have hr' : (r : Int) < (m : Int) := by omega
      obtain ⟨xa, rfl, hcx⟩ := (HX1.out.upd HU.out) r (by rw [HL1.out]; omega)
      obtain ⟨z, hz⟩ : ∃ z, z = z1.getD r 0 := ⟨_, rfl⟩
      rw [← hz] at hcx
      clear hz
      by_cases hn2 : n < 2
      · have hn2' : (n : Int) < 2 := by omega
        have N1 := hid (normal_any _ B L wr HA.out (by rw [← HN.out]; exact h40))
        obtain ⟨D1, hD1⟩ : ∃ D, D = wr.heap.size := ⟨_, rfl⟩
        rw [← hD1] at N1
        clear hD1
        go_wp2_with fail
        refine N1.out.mono ?_
        rintro e w6 ⟨v12, rfl, ⟨x, ho, hnx⟩, hu⟩
        have HNX := hid hnx
        have V6 := hid ho
        have U6 := hid (HU.out.trans hu (fun t ht => by cases ht))
        have A6 := hid (HA.out.new hu)
        have B6 := hid (HB.out.new hu)
        have N2 := hid (normal_any _ B2 M w6 B6.out (by rw [← HM.out]; exact h40))
        obtain ⟨D2, hD2⟩ : ∃ D, D = w6.heap.size := ⟨_, rfl⟩
        rw [← hD2] at N2
        clear hD2 ho hnx hu N1 HU HA HB
        go_wp2_with fail
        refine N2.out.mono ?_
        rintro e w7 ⟨v14, rfl, ⟨y, ho, hny⟩, hu⟩
        have HNY := hid hny
        have Y7 := hid ho
        have U7 := hid (U6.out.trans hu (fun t ht => by cases ht))
        have A7 := hid (A6.out.new hu)
        have B7 := hid (B6.out.new hu)
        have V7 := hid (V6.out.new hu)
        have SM := hid (same_any a2 b2 L M n k2 n k3 w7 HN.out h40 (by have h := A7.out; rw [HN.out] at h; exact h.at) HM.out h40 (by have h := B7.out; rw [HM.out] at h; exact h.at))
        clear ho hny hu N2 U6 A6 B6 V6
        go_wp2_with fail
        refine SM.out.mono ?_
        rintro e w8 ⟨q, rfl, hq, hu⟩
        have Q8 := hid (hq.trans (normal_eq HNX.out HNY.out).symm)
        have U8 := hid (U7.out.trans hu (fun t ht => by cases ht))
        have A8 := hid (A7.out.new hu)
        have Y8 := hid (Y7.out.new hu)
        have V8 := hid (V7.out.new hu)
        have hxl : x.length = n := by
          have h := ((normal_same HNX.out).perm depS whoS depS_who).length_eq
          rw [HN.out]; exact h.symm
        have hyl : y.length = n := by
          have h := ((normal_same HNY.out).perm depS whoS depS_who).length_eq
          rw [HM.out]; exact h.symm
        obtain ⟨a12, k12, rfl, -, -⟩ := V8.out.view
        obtain ⟨a14, k14, rfl, -, -⟩ := Y8.out.view
        have SO := hid (same_any a2 a12 L x n k2 x.length k12 w8 HN.out h40 (by have h := A8.out; rw [HN.out] at h; exact h.at) rfl (by omega) V8.out.at)
        have XL := hid hxl.symm
        have YL := hid hyl.symm
        rw [hxl] at SO V8 ⊢
        rw [hyl] at Y8 ⊢
        clear hq hu SM U7 A7 B7 V7 Y7 hxl hyl
        go_wp2_with fail
        refine SO.out.mono ?_
        rintro e w9 ⟨q2, rfl, hq, hu⟩
        have hq2 := hq.2 (normal_same HNX.out)
        subst hq2
        have U9 := hid (U8.out.trans hu (fun t ht => by cases ht))
        have Y9 := hid (Y8.out.new hu)
        have V9 := hid (V8.out.new hu)
        have N3 := hid (normal_any _ _ x w9 V9.out (by rw [← XL.out]; exact h40))
        obtain ⟨D3, hD3⟩ : ∃ D, D = w9.heap.size := ⟨_, rfl⟩
        rw [← hD3] at N3
        clear hq hu SO U8 A8 Y8 V8 hD3
        go_wp2_with fail
        refine N3.out.mono ?_
        rintro e w10 ⟨v20, rfl, ⟨x2, ho, hnx2⟩, hu⟩
        have ex : x2 = x := ((normal_eq HNX.out hnx2).2 (normal_same HNX.out)).symm
        subst ex
        have U10 := hid (U9.out.trans hu (fun t ht => by cases ht))
        have Y10 := hid (Y9.out.new hu)
        have V10 := hid (V9.out.new hu)
        have Z10 := hid ho
        obtain ⟨a20, k20, rfl, -, -⟩ := Z10.out.view
        rw [← XL.out] at Z10 ⊢
        clear ho hnx2 hu N3 U9 Y9 V9
        have E0 := K.blk_new w10 (.cells #[.int .i64 0, .int .i64 0, .int .i64 0, .int .i64 0, .int .i64 0] 30)
        obtain ⟨w11, hw11⟩ : ∃ w11, w11 = w10.alloc (.cells #[.int .i64 0, .int .i64 0, .int .i64 0, .int .i64 0, .int .i64 0] 30) := ⟨_, rfl⟩
        obtain ⟨E, hE⟩ : ∃ E, E = w10.heap.size := ⟨_, rfl⟩
        rw [← hw11, ← hE] at E0
        have EB := hid E0
        have u11 := hid (show Upd [] w10 w11 by rw [hw11]; exact (Upd.refl [] w10).alloc _)
        go_wp2_with fail
        rw [← hw11, ← hE]
        have U11 := hid (U10.out.trans u11.out (fun t ht => by cases ht))
        have Y11 := hid (Y10.out.new u11.out)
        have V11 := hid (V10.out.new u11.out)
        have Z11 := hid (Z10.out.new u11.out)
        clear hw11 hE u11 E0 U10 Y10 V10 Z10
        go_loopg [122] 5 (fun d v122 wz => ∃ (j : Nat), v122 = .int .i64 (j : Int) ∧ j ≤ 5 ∧ Hid (j + d = 5) ∧ wz = w11)
        case atStart => exact ⟨0, rfl, by omega, hid (by omega), rfl⟩
        case round =>
          obtain ⟨j, rfl, hj, Hj, hwz⟩ := hrel
          have hwz' := hwz.symm
          subst hwz'
          clear hwz
          by_cases hj5 : j < 5
          · have hj' : (j : Int) < 5 := by omega
            have ce : w11.cell? ⟨E, j, none⟩ = some (.int .i64 0) := by
              rw [K.blk_cell EB.out j]
              match j, hj5 with
              | 0, _ => rfl
              | 1, _ => rfl
              | 2, _ => rfl
              | 3, _ => rfl
              | 4, _ => rfl
            go_wp2_with fail
            go_roundg (5 - (j + 1))
            case measure => have := Hj.out; omega
            case rel => exact ⟨j + 1, by go_num, by omega, hid (by omega), rfl⟩
          · have hj' : ¬ (j : Int) < 5 := by omega
            have EQ1 := hid (equal_st a12 a14 n n k12 k14 x2 y w11 V11.out.at Y11.out.at XL.out YL.out (by omega) (by omega))
            have EQ2 := fun w' u => hid (equal_st a20 a12 n n k20 k12 x2 x2 w' (Z11.out.at.upd u) (V11.out.at.upd (w' := w') u) XL.out XL.out (by omega) (by omega))
            have hqd : q = decide (x2 = y) := by
              rw [Bool.eq_iff_iff, decide_eq_true_eq]; exact Q8.out
            rw [← hqd] at EQ1
            clear hqd Q8
            go_wp2_with fail
            refine EQ1.out.mono ?_
            rintro e w12 ⟨rfl, hu⟩
            have E2 := EQ2 w12 hu
            rw [show decide True = true from rfl] at E2
            have U12 := hid (U11.out.trans hu (fun t ht => by cases ht))
            clear hu EQ1 EQ2
            have hqq : (q == q) = true := by cases q <;> rfl
            go_wp2_with fail
            refine E2.out.mono ?_
            rintro e w13 ⟨rfl, hu⟩
            have U13 := hid (U12.out.trans hu (fun t ht => by cases ht))
            clear hu E2
            go_wp2_with fail
            go_ret
            exact ⟨rfl, U13.out⟩
      · have hn2' : ¬ (n : Int) < 2 := by omega
        have hw1 : IntKind.i64.wrap ((n : Int) - 1) = (n : Int) - 1 := IntWalk.i64_in _ (by omega)
        go_wp2_with fail
        refine (rest_some _ _ _ (by omega) (by omega)).mono ?_
        rintro e w' ⟨i, hi, -, rfl, rfl⟩
        have hi1 : i + 1 < n := by omega
        have IL := hid (show i + 1 < M.length by rw [← HM.out]; exact hi1)
        obtain ⟨g3, k', e, -⟩ := HB.out.shape (by have := IL.out; omega)
        simp only [Value.slice.injEq] at e
        obtain ⟨rfl, -, -⟩ := e
        obtain ⟨c0, c1, c2⟩ := HB.out.cell (i := i) (by have := IL.out; omega)
        obtain ⟨d0, d1, d2⟩ := HB.out.cell (i := i + 1) IL.out
        obtain ⟨x, hx⟩ : ∃ x, x = M.getD i default := ⟨_, rfl⟩
        obtain ⟨y, hy⟩ : ∃ y, y = M.getD (i + 1) default := ⟨_, rfl⟩
        rw [← hx] at c0 c1 c2
        rw [← hy] at d0 d1 d2
        have HXX := hid hx
        have HYY := hid hy
        have DP := fun w => hid (Depend_any x y w)
        unfold stc at DP
        obtain ⟨x0, hx0⟩ : ∃ x0 : Nat, x0 = x.who.val := ⟨_, rfl⟩
        obtain ⟨x1, hx1⟩ : ∃ x1 : Nat, x1 = x.rd.val := ⟨_, rfl⟩
        obtain ⟨x2, hx2⟩ : ∃ x2 : Nat, x2 = x.wr.val := ⟨_, rfl⟩
        obtain ⟨y0, hy0⟩ : ∃ y0 : Nat, y0 = y.who.val := ⟨_, rfl⟩
        obtain ⟨y1, hy1⟩ : ∃ y1 : Nat, y1 = y.rd.val := ⟨_, rfl⟩
        obtain ⟨y2, hy2⟩ : ∃ y2 : Nat, y2 = y.wr.val := ⟨_, rfl⟩
        rw [← hx0, ← hx1, ← hx2, ← hy0, ← hy1, ← hy2] at DP
        rw [← hx0] at c0
        rw [← hx1] at c1
        rw [← hx2] at c2
        rw [← hy0] at d0
        rw [← hy1] at d1
        rw [← hy2] at d2
        have CX := hid (show x.who.val = x0 ∧ x.rd.val = x1 ∧ x.wr.val = x2 from ⟨hx0.symm, hx1.symm, hx2.symm⟩)
        have CY := hid (show y.who.val = y0 ∧ y.rd.val = y1 ∧ y.wr.val = y2 from ⟨hy0.symm, hy1.symm, hy2.symm⟩)
        clear hx hy hx0 hx1 hx2 hy0 hy1 hy2
        obtain ⟨dd, hdd⟩ : ∃ dd, dd = depS x y := ⟨_, rfl⟩
        rw [← hdd] at DP
        clear hdd
        have hi' : (i : Int) < (n : Int) := by omega
        have hi2' : (i : Int) + 1 < (n : Int) := by omega
        have hw2 : IntKind.i64.wrap ((i : Int) + 1) = (i : Int) + 1 := IntWalk.i64_in _ (by omega)
        have hp0 : 0 ≤ (i : Int) + 1 := by omega
        go_upto_region 10 with (fail)
        refine J.J_begin (fun wz => wz.cell? ⟨g3, i * 3, none⟩ = some (.int .i64 (x0 : Int)) ∧ wz.cell? ⟨g3, i * 3 + 1, none⟩ = some (.int .i64 (x1 : Int)) ∧ wz.cell? ⟨g3, i * 3 + 2, none⟩ = some (.int .i64 (x2 : Int)) ∧ wz.cell? ⟨g3, (i + 1) * 3, none⟩ = some (.int .i64 (y0 : Int)) ∧ wz.cell? ⟨g3, (i + 1) * 3 + 1, none⟩ = some (.int .i64 (y1 : Int)) ∧ wz.cell? ⟨g3, (i + 1) * 3 + 2, none⟩ = some (.int .i64 (y2 : Int))) 14 (by kernel_rfl) ⟨by kernel_rfl, by kernel_rfl, by kernel_rfl⟩ ⟨c0, c1, c2, d0, d1, d2⟩ (fun LAST HS => ?_)
        refine J.J_take (i := 0) (v := ?_) LAST (by rfl) (by decide) (by kernel_rfl) (by kernel_rfl) (by intro _ _ _ h; exact h) HS (Or.inl ⟨by rfl, ?_⟩) ?_
        rotate_left
        · intro w hSw; (try dsimp only at hSw); go_simp; try with_reducible rfl
        try simp only [Act.put, List.setIfInBounds_toArray, List.set_cons_zero, List.set_cons_succ]
        refine J.J_take (i := 1) (v := ?_) LAST (by rfl) (by decide) (by kernel_rfl) (by kernel_rfl) (by intro _ _ _ h; exact h) HS (Or.inl ⟨by rfl, ?_⟩) ?_
        rotate_left
        · intro w hSw; (try dsimp only at hSw); go_simp; try with_reducible rfl
        try simp only [Act.put, List.setIfInBounds_toArray, List.set_cons_zero, List.set_cons_succ]
        refine J.J_take (i := 2) (v := ?_) LAST (by rfl) (by decide) (by kernel_rfl) (by kernel_rfl) (by intro _ _ _ h; exact h) HS (Or.inl ⟨by rfl, ?_⟩) ?_
        rotate_left
        · intro w hSw; (try dsimp only at hSw); go_simp; try with_reducible rfl
        try simp only [Act.put, List.setIfInBounds_toArray, List.set_cons_zero, List.set_cons_succ]
        refine J.J_take (i := 3) (v := ?_) LAST (by rfl) (by decide) (by kernel_rfl) (by kernel_rfl) (by intro _ _ _ h; exact h) HS (Or.inl ⟨by rfl, ?_⟩) ?_
        rotate_left
        · intro w hSw; (try dsimp only at hSw); go_simp; try with_reducible rfl
        try simp only [Act.put, List.setIfInBounds_toArray, List.set_cons_zero, List.set_cons_succ]
        refine J.J_take (i := 4) (v := ?_) LAST (by rfl) (by decide) (by kernel_rfl) (by kernel_rfl) (by intro _ _ _ h; exact h) HS (Or.inl ⟨by rfl, ?_⟩) ?_
        rotate_left
        · intro w hSw; (try dsimp only at hSw); go_simp; try with_reducible rfl
        try simp only [Act.put, List.setIfInBounds_toArray, List.set_cons_zero, List.set_cons_succ]
        refine J.J_take (i := 5) (v := ?_) LAST (by rfl) (by decide) (by kernel_rfl) (by kernel_rfl) (by intro _ _ _ h; exact h) HS (Or.inl ⟨by rfl, ?_⟩) ?_
        rotate_left
        · intro w hSw; (try dsimp only at hSw); go_simp; try with_reducible rfl
        try simp only [Act.put, List.setIfInBounds_toArray, List.set_cons_zero, List.set_cons_succ]
        refine J.J_take (i := 6) (v := ?_) LAST (by rfl) (by decide) (by kernel_rfl) (by kernel_rfl) (by intro _ _ _ h; exact h) HS (Or.inl ⟨by rfl, ?_⟩) ?_
        rotate_left
        · intro w hSw; (try dsimp only at hSw); go_simp; try with_reducible rfl
        try simp only [Act.put, List.setIfInBounds_toArray, List.set_cons_zero, List.set_cons_succ]
        refine J.J_take (i := 7) (v := ?_) LAST (by rfl) (by decide) (by kernel_rfl) (by kernel_rfl) (by intro _ _ _ h; exact h) HS (Or.inl ⟨by rfl, ?_⟩) ?_
        rotate_left
        · intro w hSw; (try dsimp only at hSw); go_simp; try with_reducible rfl
        try simp only [Act.put, List.setIfInBounds_toArray, List.set_cons_zero, List.set_cons_succ]
        refine J.J_take (i := 8) (v := ?_) LAST (by rfl) (by decide) (by kernel_rfl) (by kernel_rfl) (by intro _ _ _ h; exact h) HS (Or.inl ⟨by rfl, ?_⟩) ?_
        rotate_left
        · intro w hSw; (try dsimp only at hSw); go_simp; try with_reducible rfl
        try simp only [Act.put, List.setIfInBounds_toArray, List.set_cons_zero, List.set_cons_succ]
        refine J.J_one (i := 9) (by rfl) (by decide) (by kernel_rfl) (fun KK hK => ?_)
        go_simp
        refine (DP _).out.mono ?_
        rintro e w5 ⟨rfl, hu5⟩
        have u5 := hid (show Upd [] wr w5 from (Upd.refl [] wr).drew.trans hu5 (fun t ht => by cases ht))
        have HS5 : w5.cell? ⟨g3, i * 3, none⟩ = some (.int .i64 (x0 : Int)) ∧ w5.cell? ⟨g3, i * 3 + 1, none⟩ = some (.int .i64 (x1 : Int)) ∧ w5.cell? ⟨g3, i * 3 + 2, none⟩ = some (.int .i64 (x2 : Int)) ∧ w5.cell? ⟨g3, (i + 1) * 3, none⟩ = some (.int .i64 (y0 : Int)) ∧ w5.cell? ⟨g3, (i + 1) * 3 + 1, none⟩ = some (.int .i64 (y1 : Int)) ∧ w5.cell? ⟨g3, (i + 1) * 3 + 2, none⟩ = some (.int .i64 (y2 : Int)) := ⟨u5.out.cell c0 (by simp), u5.out.cell c1 (by simp), u5.out.cell c2 (by simp), u5.out.cell d0 (by simp), u5.out.cell d1 (by simp), u5.out.cell d2 (by simp)⟩
        go_simp
        refine hK.out _ _ HS5 ?_
        clear hK KK
        try simp only [List.setIfInBounds_toArray]
        refine J.J_take (i := 10) (v := ?_) LAST (by rfl) (by decide) (by kernel_rfl) (by kernel_rfl) (by intro _ _ _ h; exact h) HS5 (Or.inl ⟨by rfl, ?_⟩) ?_
        rotate_left
        · intro w hSw; (try dsimp only at hSw); go_simp; try with_reducible rfl
        try simp only [Act.put, List.setIfInBounds_toArray, List.set_cons_zero, List.set_cons_succ]
        refine J.J_take (i := 11) (v := ?_) LAST (by rfl) (by decide) (by kernel_rfl) (by kernel_rfl) (by intro _ _ _ h; exact h) HS5 (Or.inl ⟨by rfl, ?_⟩) ?_
        rotate_left
        · intro w hSw; (try dsimp only at hSw); go_simp; try with_reducible rfl
        try simp only [Act.put, List.setIfInBounds_toArray, List.set_cons_zero, List.set_cons_succ]
        refine J.J_take (i := 12) (v := ?_) LAST (by rfl) (by decide) (by kernel_rfl) (by kernel_rfl) (by intro _ _ _ h; exact h) HS5 (Or.inl ⟨by rfl, ?_⟩) ?_
        rotate_left
        · intro w hSw; (try dsimp only at hSw); go_simp; try with_reducible rfl
        try simp only [Act.put, List.setIfInBounds_toArray, List.set_cons_zero, List.set_cons_succ]
        refine J.J_take (i := 13) (v := ?_) LAST (by rfl) (by decide) (by kernel_rfl) (by kernel_rfl) (by intro _ _ _ h; exact h) HS5 (Or.inl ⟨by rfl, ?_⟩) ?_
        rotate_left
        · intro w hSw; (try dsimp only at hSw); go_simp; try with_reducible rfl
        try simp only [Act.put, List.setIfInBounds_toArray, List.set_cons_zero, List.set_cons_succ]
        refine J.J_last (by rfl) (by kernel_rfl) (by kernel_rfl) ?_
        clear LAST HS hu5 DP c0 c1 c2 d0 d1 d2
        have A5 := hid (HA.out.new u5.out)
        have B5 := hid (HB.out.new u5.out)
        have U5 := hid (HU.out.trans u5.out (fun t ht => by cases ht))
        obtain ⟨c0, c1, c2, d0, d1, d2⟩ := HS5
        have f0 := B5.out.fro (i * 3)
        have f1 := B5.out.fro (i * 3 + 1)
        have f2 := B5.out.fro (i * 3 + 2)
        have f3 := B5.out.fro ((i + 1) * 3)
        have f4 := B5.out.fro ((i + 1) * 3 + 1)
        have f5 := B5.out.fro ((i + 1) * 3 + 2)
        have W6 := hid (show StepsOf ((((((w5.setCell ⟨g3, i * 3, none⟩ (.int .i64 (y0 : Int))).setCell ⟨g3, i * 3 + 1, none⟩ (.int .i64 (y1 : Int))).setCell ⟨g3, i * 3 + 2, none⟩ (.int .i64 (y2 : Int))).setCell ⟨g3, (i + 1) * 3, none⟩ (.int .i64 (x0 : Int))).setCell ⟨g3, (i + 1) * 3 + 1, none⟩ (.int .i64 (x1 : Int))).setCell ⟨g3, (i + 1) * 3 + 2, none⟩ (.int .i64 (x2 : Int))) B2 (.slice (some ⟨g3, 0, none⟩) n k3) (swp M i) by
          have h := (B5.out.set HM.out (i := i) (by omega) y).set (by rw [List.length_set]; exact HM.out) (i := i + 1) hi1 x
          rw [CX.out.1, CX.out.2.1, CX.out.2.2, CY.out.1, CY.out.2.1, CY.out.2.2] at h
          unfold swp
          rw [← HXX.out, ← HYY.out]
          exact h)
        have G3 := hid (show w.heap.size ≤ g3 from Nat.le_trans WB2.out (own_ge B5.out g3 rfl))
        clear HA HB HU u5 CX CY
        cases dd with
        | false =>
          go_simp
          go_wp2_with fail
          go_region
          obtain ⟨w4, hw4⟩ : ∃ w4, w4 = ((((((w5.setCell ⟨g3, i * 3, none⟩ (.int .i64 (y0 : Int))).setCell ⟨g3, i * 3 + 1, none⟩ (.int .i64 (y1 : Int))).setCell ⟨g3, i * 3 + 2, none⟩ (.int .i64 (y2 : Int))).setCell ⟨g3, (i + 1) * 3, none⟩ (.int .i64 (x0 : Int))).setCell ⟨g3, (i + 1) * 3 + 1, none⟩ (.int .i64 (x1 : Int))).setCell ⟨g3, (i + 1) * 3 + 2, none⟩ (.int .i64 (x2 : Int))).drew := ⟨_, rfl⟩
          rw [← hw4]
          have u4 := hid (show Upd [g3] w5 w4 by
            rw [hw4]
            exact ((((((((Upd.refl [g3] w5).setCell (.inl (by simp)) _).setCell (.inl (by simp)) _).setCell (.inl (by simp)) _).setCell (.inl (by simp)) _).setCell (.inl (by simp)) _).setCell (.inl (by simp)) _).drew))
          have U4 := hid (U5.out.trans u4.out (fun t ht => .inr (by simp at ht; subst ht; exact G3.out)))
          have A4 := hid (show StepsOf w4 B (.slice a2 n k2) L from own_upd A5.out u4.out (fun j hj hs => by
            simp only [List.mem_singleton] at hs
            exact NV.out j hj g3 rfl hs))
          have B4 := hid (show StepsOf w4 B2 (.slice (some ⟨g3, 0, none⟩) n k3) (swp M i) by
            rw [hw4]
            exact own_new W6.out ((Upd.refl [] _).drew))
          clear hw4 W6 u4 U5 A5 B5 c0 c1 c2 d0 d1 d2 f0 f1 f2 f3 f4 f5
          go_wp2_with fail
          go_roundg (m - (r + 1))
          case measure => have := Hr.out; omega
          case rel => exact ⟨r + 1, swp M i, by go_num, by omega, hid (by omega), A4, B4, hid (by rw [swp_len]; exact HM.out), U4⟩
        | true =>
          go_simp
          go_wp2_with fail
          refine (rest_some _ _ _ (by omega) (by omega)).mono ?_
          rintro e w' ⟨p, hp, -, rfl, rfl⟩
          by_cases hp0 : p = 0
          · subst hp0
            go_wp2_with fail
            go_region
            obtain ⟨w4, hw4⟩ : ∃ w4, w4 = ((((((w5.setCell ⟨g3, i * 3, none⟩ (.int .i64 (y0 : Int))).setCell ⟨g3, i * 3 + 1, none⟩ (.int .i64 (y1 : Int))).setCell ⟨g3, i * 3 + 2, none⟩ (.int .i64 (y2 : Int))).setCell ⟨g3, (i + 1) * 3, none⟩ (.int .i64 (x0 : Int))).setCell ⟨g3, (i + 1) * 3 + 1, none⟩ (.int .i64 (x1 : Int))).setCell ⟨g3, (i + 1) * 3 + 2, none⟩ (.int .i64 (x2 : Int))).drew := ⟨_, rfl⟩
            rw [← hw4]
            have u4 := hid (show Upd [g3] w5 w4 by
              rw [hw4]
              exact ((((((((Upd.refl [g3] w5).setCell (.inl (by simp)) _).setCell (.inl (by simp)) _).setCell (.inl (by simp)) _).setCell (.inl (by simp)) _).setCell (.inl (by simp)) _).setCell (.inl (by simp)) _).drew))
            have U4 := hid (U5.out.trans u4.out (fun t ht => .inr (by simp at ht; subst ht; exact G3.out)))
            have A4 := hid (show StepsOf w4 B (.slice a2 n k2) L from own_upd A5.out u4.out (fun j hj hs => by
              simp only [List.mem_singleton] at hs
              exact NV.out j hj g3 rfl hs))
            have B4 := hid (show StepsOf w4 B2 (.slice (some ⟨g3, 0, none⟩) n k3) (swp M i) by
              rw [hw4]
              exact own_new W6.out ((Upd.refl [] _).drew))
            clear hw4 W6 u4 U5 A5 B5 c0 c1 c2 d0 d1 d2 f0 f1 f2 f3 f4 f5
            go_wp2_with fail
            go_roundg (m - (r + 1))
            case measure => have := Hr.out; omega
            case rel => exact ⟨r + 1, swp M i, by go_num, by omega, hid (by omega), A4, B4, hid (by rw [swp_len]; exact HM.out), U4⟩
          · have hpb : ((p : Int) == 0) = false := by rw [beq_eq_false_iff_ne]; omega
            go_wp2_with fail
            go_roundg (m - (r + 1))
            case measure => have := Hr.out; omega
            case rel => exact ⟨r + 1, M, by go_num, by omega, hid (by omega), A5, B5, HM, U5⟩
    · have hr' : ¬ (r : Int) < (m : Int) := by omega
      have N1 := hid (normal_any _ B L wr HA.out (by rw [← HN.out]; exact h40))
      obtain ⟨D1, hD1⟩ : ∃ D, D = wr.heap.size := ⟨_, rfl⟩
      rw [← hD1] at N1
      clear hD1
      go_wp2_with fail
      refine N1.out.mono ?_
      rintro e w6 ⟨v12, rfl, ⟨x, ho, hnx⟩, hu⟩
      have HNX := hid hnx
      have V6 := hid ho
      have U6 := hid (HU.out.trans hu (fun t ht => by cases ht))
      have A6 := hid (HA.out.new hu)
      have B6 := hid (HB.out.new hu)
      have N2 := hid (normal_any _ B2 M w6 B6.out (by rw [← HM.out]; exact h40))
      obtain ⟨D2, hD2⟩ : ∃ D, D = w6.heap.size := ⟨_, rfl⟩
      rw [← hD2] at N2
      clear hD2 ho hnx hu N1 HU HA HB
      go_wp2_with fail
      refine N2.out.mono ?_
      rintro e w7 ⟨v14, rfl, ⟨y, ho, hny⟩, hu⟩
      have HNY := hid hny
      have Y7 := hid ho
      have U7 := hid (U6.out.trans hu (fun t ht => by cases ht))
      have A7 := hid (A6.out.new hu)
      have B7 := hid (B6.out.new hu)
      have V7 := hid (V6.out.new hu)
      have SM := hid (same_any a2 b2 L M n k2 n k3 w7 HN.out h40 (by have h := A7.out; rw [HN.out] at h; exact h.at) HM.out h40 (by have h := B7.out; rw [HM.out] at h; exact h.at))
      clear ho hny hu N2 U6 A6 B6 V6
      go_wp2_with fail
      refine SM.out.mono ?_
      rintro e w8 ⟨q, rfl, hq, hu⟩
      have Q8 := hid (hq.trans (normal_eq HNX.out HNY.out).symm)
      have U8 := hid (U7.out.trans hu (fun t ht => by cases ht))
      have A8 := hid (A7.out.new hu)
      have Y8 := hid (Y7.out.new hu)
      have V8 := hid (V7.out.new hu)
      have hxl : x.length = n := by
        have h := ((normal_same HNX.out).perm depS whoS depS_who).length_eq
        rw [HN.out]; exact h.symm
      have hyl : y.length = n := by
        have h := ((normal_same HNY.out).perm depS whoS depS_who).length_eq
        rw [HM.out]; exact h.symm
      obtain ⟨a12, k12, rfl, -, -⟩ := V8.out.view
      obtain ⟨a14, k14, rfl, -, -⟩ := Y8.out.view
      have SO := hid (same_any a2 a12 L x n k2 x.length k12 w8 HN.out h40 (by have h := A8.out; rw [HN.out] at h; exact h.at) rfl (by omega) V8.out.at)
      have XL := hid hxl.symm
      have YL := hid hyl.symm
      rw [hxl] at SO V8 ⊢
      rw [hyl] at Y8 ⊢
      clear hq hu SM U7 A7 B7 V7 Y7 hxl hyl
      go_wp2_with fail
      refine SO.out.mono ?_
      rintro e w9 ⟨q2, rfl, hq, hu⟩
      have hq2 := hq.2 (normal_same HNX.out)
      subst hq2
      have U9 := hid (U8.out.trans hu (fun t ht => by cases ht))
      have Y9 := hid (Y8.out.new hu)
      have V9 := hid (V8.out.new hu)
      have N3 := hid (normal_any _ _ x w9 V9.out (by rw [← XL.out]; exact h40))
      obtain ⟨D3, hD3⟩ : ∃ D, D = w9.heap.size := ⟨_, rfl⟩
      rw [← hD3] at N3
      clear hq hu SO U8 A8 Y8 V8 hD3
      go_wp2_with fail
      refine N3.out.mono ?_
      rintro e w10 ⟨v20, rfl, ⟨x2, ho, hnx2⟩, hu⟩
      have ex : x2 = x := ((normal_eq HNX.out hnx2).2 (normal_same HNX.out)).symm
      subst ex
      have U10 := hid (U9.out.trans hu (fun t ht => by cases ht))
      have Y10 := hid (Y9.out.new hu)
      have V10 := hid (V9.out.new hu)
      have Z10 := hid ho
      obtain ⟨a20, k20, rfl, -, -⟩ := Z10.out.view
      rw [← XL.out] at Z10 ⊢
      clear ho hnx2 hu N3 U9 Y9 V9
      have E0 := K.blk_new w10 (.cells #[.int .i64 0, .int .i64 0, .int .i64 0, .int .i64 0, .int .i64 0] 30)
      obtain ⟨w11, hw11⟩ : ∃ w11, w11 = w10.alloc (.cells #[.int .i64 0, .int .i64 0, .int .i64 0, .int .i64 0, .int .i64 0] 30) := ⟨_, rfl⟩
      obtain ⟨E, hE⟩ : ∃ E, E = w10.heap.size := ⟨_, rfl⟩
      rw [← hw11, ← hE] at E0
      have EB := hid E0
      have u11 := hid (show Upd [] w10 w11 by rw [hw11]; exact (Upd.refl [] w10).alloc _)
      go_wp2_with fail
      rw [← hw11, ← hE]
      have U11 := hid (U10.out.trans u11.out (fun t ht => by cases ht))
      have Y11 := hid (Y10.out.new u11.out)
      have V11 := hid (V10.out.new u11.out)
      have Z11 := hid (Z10.out.new u11.out)
      clear hw11 hE u11 E0 U10 Y10 V10 Z10
      go_loopg [122] 5 (fun d v122 wz => ∃ (j : Nat), v122 = .int .i64 (j : Int) ∧ j ≤ 5 ∧ Hid (j + d = 5) ∧ wz = w11)
      case atStart => exact ⟨0, rfl, by omega, hid (by omega), rfl⟩
      case round =>
        obtain ⟨j, rfl, hj, Hj, hwz⟩ := hrel
        have hwz' := hwz.symm
        subst hwz'
        clear hwz
        by_cases hj5 : j < 5
        · have hj' : (j : Int) < 5 := by omega
          have ce : w11.cell? ⟨E, j, none⟩ = some (.int .i64 0) := by
            rw [K.blk_cell EB.out j]
            match j, hj5 with
            | 0, _ => rfl
            | 1, _ => rfl
            | 2, _ => rfl
            | 3, _ => rfl
            | 4, _ => rfl
          go_wp2_with fail
          go_roundg (5 - (j + 1))
          case measure => have := Hj.out; omega
          case rel => exact ⟨j + 1, by go_num, by omega, hid (by omega), rfl⟩
        · have hj' : ¬ (j : Int) < 5 := by omega
          have EQ1 := hid (equal_st a12 a14 n n k12 k14 x2 y w11 V11.out.at Y11.out.at XL.out YL.out (by omega) (by omega))
          have EQ2 := fun w' u => hid (equal_st a20 a12 n n k20 k12 x2 x2 w' (Z11.out.at.upd u) (V11.out.at.upd (w' := w') u) XL.out XL.out (by omega) (by omega))
          have hqd : q = decide (x2 = y) := by
            rw [Bool.eq_iff_iff, decide_eq_true_eq]; exact Q8.out
          rw [← hqd] at EQ1
          clear hqd Q8
          go_wp2_with fail
          refine EQ1.out.mono ?_
          rintro e w12 ⟨rfl, hu⟩
          have E2 := EQ2 w12 hu
          rw [show decide True = true from rfl] at E2
          have U12 := hid (U11.out.trans hu (fun t ht => by cases ht))
          clear hu EQ1 EQ2
          have hqq : (q == q) = true := by cases q <;> rfl
          go_wp2_with fail
          refine E2.out.mono ?_
          rintro e w13 ⟨rfl, hu⟩
          have U13 := hid (U12.out.trans hu (fun t ht => by cases ht))
          clear hu E2
          go_wp2_with fail
          go_ret
          exact ⟨rfl, U13.out⟩
end Go.Proofs.Ytnikkakeiajmgaa.Pv
