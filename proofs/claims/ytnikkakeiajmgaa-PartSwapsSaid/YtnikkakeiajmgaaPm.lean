/- The walk of the statement PartSwaps. -/
import Derived.Test.YtnikkakeiajmgaaPl
namespace Go.Proofs.Ytnikkakeiajmgaa.Pm
open Go Go.RowKit Go.Proofs.Ytnikkakeiajmgaa Go.Proofs.Ytnikkakeiajmgaa.K Go.Proofs.Ytnikkakeiajmgaa.M Go.Proofs.Ytnikkakeiajmgaa.O Go.Proofs.Ytnikkakeiajmgaa.R Go.Proofs.Ytnikkakeiajmgaa.Pt Go.Proofs.Ytnikkakeiajmgaa.Pa

set_option maxHeartbeats 16000000 in
set_option maxRecDepth 100000 in
theorem the_walk (a0 : Option Addr) (len0 cap0 : Nat) (z0 : List Int) (i0 : Int) (w : World) (hx : IntRow w a0 z0) (hl : z0.length = len0) (hlc : len0 ≤ cap0) (hc : cap0 ≤ 9223372036854775807) :
    Calls Try.prog 3 #[.slice a0 len0 cap0, .int .i64 i0] w fun e w' => e = .returned (.bool true) ∧ Upd [] w w' := by
  have HX := hid hx
  have HL := hid hl
  clear hx hl
  go_enter Try.func3, Try.ntmps3
  go_wp2_with fail
  refine (begun_any w).mono ?_
  rintro e w1 ⟨rfl, hu⟩
  have U1 := hid hu
  have ST := hid (steps_any a0 len0 cap0 z0 w1 (HX.out.upd hu) HL.out hlc hc)
  clear hu
  go_wp2_with fail
  refine ST.out.mono ?_
  rintro e w2 ⟨v, rfl, L, ho, h40, hu⟩
  have U2 := hid (U1.out.trans hu (fun t ht => by cases ht))
  obtain ⟨B, hB⟩ : ∃ B, B = w1.heap.size := ⟨_, rfl⟩
  rw [← hB] at ho
  have A2 := hid ho
  clear hu ho ST U1 hB hlc hc
  obtain ⟨a2, k2, rfl, -, -⟩ := A2.out.view
  obtain ⟨n, hn⟩ : ∃ n, n = L.length := ⟨_, rfl⟩
  rw [← hn] at A2 h40 ⊢
  have HN := hid hn
  clear hn
  by_cases hn2 : n < 2
  · have hn2' : (n : Int) < 2 := by omega
    go_wp2_with fail
    go_ret
    exact ⟨rfl, U2.out⟩
  · have hn2' : ¬ (n : Int) < 2 := by omega
    have hw1 : IntKind.i64.wrap ((n : Int) - 1) = (n : Int) - 1 := IntWalk.i64_in _ (by omega)
    obtain ⟨g, k, e, -⟩ := A2.out.shape (by rw [← HN.out]; omega)
    simp only [Value.slice.injEq] at e
    obtain ⟨rfl, -, -⟩ := e
    go_wp2_with fail
    refine (rest_some _ _ _ (by omega) (by omega)).mono ?_
    rintro e w' ⟨i, hi, -, rfl, rfl⟩
    have hi1 : i + 1 < n := by omega
    have IL := hid (show i + 1 < L.length by rw [← HN.out]; exact hi1)
    have CL := hid (clone_steps _ L w2 B A2.out (by rw [← HN.out]; omega))
    obtain ⟨B2, hB2⟩ : ∃ B2, B2 = w2.heap.size := ⟨_, rfl⟩
    have HB2 := hid hB2
    rw [← hB2] at CL
    clear hB2
    go_wp2_with fail
    refine CL.out.mono ?_
    rintro e w3 ⟨v3, rfl, ho, hu⟩
    have U3 := hid (U2.out.trans hu (fun t ht => by cases ht))
    have A3 := hid (A2.out.new hu)
    obtain ⟨g3, k3, rfl, hg3, -⟩ := ho.shape (by have := IL.out; omega)
    rw [← HN.out] at ho ⊢
    have B3 := hid ho
    have G3 := hid (show w.heap.size ≤ g3 from Nat.le_trans (Nat.le_trans U2.out.size (by rw [HB2.out]; exact Nat.le_refl _)) hg3)
    have NG := hid (show g ≠ g3 from fun e => by
      have := own_lt A2.out g rfl
      have := HB2.out
      omega)
    clear hu ho CL U2 A2 hg3 HB2
    obtain ⟨c0, c1, c2⟩ := B3.out.cell (i := i) (by have := IL.out; omega)
    obtain ⟨d0, d1, d2⟩ := B3.out.cell (i := i + 1) IL.out
    obtain ⟨x, hx⟩ : ∃ x, x = L.getD i default := ⟨_, rfl⟩
    obtain ⟨y, hy⟩ : ∃ y, y = L.getD (i + 1) default := ⟨_, rfl⟩
    rw [← hx] at c0 c1 c2
    rw [← hy] at d0 d1 d2
    have HXX := hid hx
    have HYY := hid hy
    have f0 := B3.out.fro (i * 3)
    have f1 := B3.out.fro (i * 3 + 1)
    have f2 := B3.out.fro (i * 3 + 2)
    have f3 := B3.out.fro ((i + 1) * 3)
    have f4 := B3.out.fro ((i + 1) * 3 + 1)
    have f5 := B3.out.fro ((i + 1) * 3 + 2)
    have DP := fun w => hid (Depend_any x y w)
    have EQ := fun w => hid (eql_st x y w)
    unfold stc at DP EQ
    obtain ⟨x0, hx0⟩ : ∃ x0 : Nat, x0 = x.who.val := ⟨_, rfl⟩
    obtain ⟨x1, hx1⟩ : ∃ x1 : Nat, x1 = x.rd.val := ⟨_, rfl⟩
    obtain ⟨x2, hx2⟩ : ∃ x2 : Nat, x2 = x.wr.val := ⟨_, rfl⟩
    obtain ⟨y0, hy0⟩ : ∃ y0 : Nat, y0 = y.who.val := ⟨_, rfl⟩
    obtain ⟨y1, hy1⟩ : ∃ y1 : Nat, y1 = y.rd.val := ⟨_, rfl⟩
    obtain ⟨y2, hy2⟩ : ∃ y2 : Nat, y2 = y.wr.val := ⟨_, rfl⟩
    rw [← hx0, ← hx1, ← hx2, ← hy0, ← hy1, ← hy2] at DP EQ
    rw [← hx0] at c0
    rw [← hx1] at c1
    rw [← hx2] at c2
    rw [← hy0] at d0
    rw [← hy1] at d1
    rw [← hy2] at d2
    have W6 := hid (show StepsOf ((((((w3.setCell ⟨g3, i * 3, none⟩ (.int .i64 (y0 : Int))).setCell ⟨g3, i * 3 + 1, none⟩ (.int .i64 (y1 : Int))).setCell ⟨g3, i * 3 + 2, none⟩ (.int .i64 (y2 : Int))).setCell ⟨g3, (i + 1) * 3, none⟩ (.int .i64 (x0 : Int))).setCell ⟨g3, (i + 1) * 3 + 1, none⟩ (.int .i64 (x1 : Int))).setCell ⟨g3, (i + 1) * 3 + 2, none⟩ (.int .i64 (x2 : Int))) B2 (.slice (some ⟨g3, 0, none⟩) n k3) (swp L i) by
      have h := (B3.out.set HN.out (i := i) (by omega) y).set (by rw [List.length_set]; exact HN.out) (i := i + 1) hi1 x
      rw [← hx0, ← hx1, ← hx2, ← hy0, ← hy1, ← hy2] at h
      unfold swp
      rw [← hx, ← hy]
      exact h)
    have CX := hid (show x.who.val = x0 ∧ x.rd.val = x1 ∧ x.wr.val = x2 from ⟨hx0.symm, hx1.symm, hx2.symm⟩)
    have CY := hid (show y.who.val = y0 ∧ y.rd.val = y1 ∧ y.wr.val = y2 from ⟨hy0.symm, hy1.symm, hy2.symm⟩)
    clear hx hy hx0 hx1 hx2 hy0 hy1 hy2
    have hi' : (i : Int) < (n : Int) := by omega
    have hi2' : (i : Int) + 1 < (n : Int) := by omega
    have hw2 : IntKind.i64.wrap ((i : Int) + 1) = (i : Int) + 1 := IntWalk.i64_in _ (by omega)
    go_wp2_with fail
    go_region
    obtain ⟨w4, hw4⟩ : ∃ w4, w4 = ((((((w3.setCell ⟨g3, i * 3, none⟩ (.int .i64 (y0 : Int))).setCell ⟨g3, i * 3 + 1, none⟩ (.int .i64 (y1 : Int))).setCell ⟨g3, i * 3 + 2, none⟩ (.int .i64 (y2 : Int))).setCell ⟨g3, (i + 1) * 3, none⟩ (.int .i64 (x0 : Int))).setCell ⟨g3, (i + 1) * 3 + 1, none⟩ (.int .i64 (x1 : Int))).setCell ⟨g3, (i + 1) * 3 + 2, none⟩ (.int .i64 (x2 : Int))).drew := ⟨_, rfl⟩
    rw [← hw4]
    have u4 := hid (show Upd [g3] w3 w4 by
      rw [hw4]
      exact ((((((((Upd.refl [g3] w3).setCell (.inl (by simp)) _).setCell (.inl (by simp)) _).setCell (.inl (by simp)) _).setCell (.inl (by simp)) _).setCell (.inl (by simp)) _).setCell (.inl (by simp)) _).drew))
    have U4 := hid (U3.out.trans u4.out (fun t ht => .inr (by simp at ht; subst ht; exact G3.out)))
    have A4 := hid (show StepsOf w4 B (.slice (some ⟨g, 0, none⟩) n k2) L from own_upd A3.out u4.out (fun j hj hs => by
      cases hj
      simp only [List.mem_singleton] at hs
      exact NG.out hs))
    have B4 := hid (show StepsOf w4 B2 (.slice (some ⟨g3, 0, none⟩) n k3) (swp L i) by
      rw [hw4]
      exact own_new W6.out ((Upd.refl [] _).drew))
    clear hw4 W6 u4 U3 A3 B3 c0 c1 c2 d0 d1 d2 f0 f1 f2 f3 f4 f5 NG G3
    obtain ⟨c0, c1, c2⟩ := A4.out.cell (i := i) (by have := IL.out; omega)
    obtain ⟨d0, d1, d2⟩ := A4.out.cell (i := i + 1) IL.out
    rw [← HXX.out, CX.out.1] at c0
    rw [← HXX.out, CX.out.2.1] at c1
    rw [← HXX.out, CX.out.2.2] at c2
    rw [← HYY.out, CY.out.1] at d0
    rw [← HYY.out, CY.out.2.1] at d1
    rw [← HYY.out, CY.out.2.2] at d2
    obtain ⟨dd, hdd⟩ : ∃ dd, dd = depS x y := ⟨_, rfl⟩
    rw [← hdd] at DP
    have HDD := hid hdd
    clear hdd
    have hp0 : 0 ≤ (i : Int) + 1 := by omega
    go_upto_region 9 with (fail)
    refine J.J_begin (fun wz => wz.cell? ⟨g, i * 3, none⟩ = some (.int .i64 (x0 : Int)) ∧ wz.cell? ⟨g, i * 3 + 1, none⟩ = some (.int .i64 (x1 : Int)) ∧ wz.cell? ⟨g, i * 3 + 2, none⟩ = some (.int .i64 (x2 : Int)) ∧ wz.cell? ⟨g, (i + 1) * 3, none⟩ = some (.int .i64 (y0 : Int)) ∧ wz.cell? ⟨g, (i + 1) * 3 + 1, none⟩ = some (.int .i64 (y1 : Int)) ∧ wz.cell? ⟨g, (i + 1) * 3 + 2, none⟩ = some (.int .i64 (y2 : Int))) 14 (by kernel_rfl) ⟨by kernel_rfl, by kernel_rfl, by kernel_rfl⟩ ⟨c0, c1, c2, d0, d1, d2⟩ (fun LAST HS => ?_)
    refine J.J_take (i := 0) (v := ?_) LAST (by rfl) (by decide) (by kernel_rfl) (by kernel_rfl) (by intro _ _ _ h; exact h) HS (Or.inl ⟨by rfl, ?_⟩) ?_
    rotate_left
    · intro w hSw; (try dsimp only at hSw); go_simp; try with_reducible rfl
    try simp only [Act.put, List.setIfInBounds_toArray, List.set_cons_zero, List.set_cons_succ]
    refine J.J_take (i := 1) (v := ?_) LAST (by rfl) (by decide) (by kernel_rfl) (by kernel_rfl) (by intro _ _ _ h; exact h) HS (Or.inl ⟨by rfl, ?_⟩) ?_
    rotate_left
    · intro w hSw; (try dsimp only at hSw); go_simp; try with_reducible rfl
    try simp only [Act.put, List.setIfInBounds_toArray, List.set_cons_zero, List.set_cons_succ]
    refine J.J_take (i := 2) (v := ?_) LAST (by rfl) (by decide) (by kernel_rfl) (by kernel_rfl) (by intro _ _ _ h; exact h) HS (Or.inl ⟨by rfl, ?_⟩) ?_
    rotate_left
    · intro w hSw; (try dsimp only at hSw); go_simp; try with_reducible rfl
    try simp only [Act.put, List.setIfInBounds_toArray, List.set_cons_zero, List.set_cons_succ]
    refine J.J_take (i := 3) (v := ?_) LAST (by rfl) (by decide) (by kernel_rfl) (by kernel_rfl) (by intro _ _ _ h; exact h) HS (Or.inl ⟨by rfl, ?_⟩) ?_
    rotate_left
    · intro w hSw; (try dsimp only at hSw); go_simp; try with_reducible rfl
    try simp only [Act.put, List.setIfInBounds_toArray, List.set_cons_zero, List.set_cons_succ]
    refine J.J_take (i := 4) (v := ?_) LAST (by rfl) (by decide) (by kernel_rfl) (by kernel_rfl) (by intro _ _ _ h; exact h) HS (Or.inl ⟨by rfl, ?_⟩) ?_
    rotate_left
    · intro w hSw; (try dsimp only at hSw); go_simp; try with_reducible rfl
    try simp only [Act.put, List.setIfInBounds_toArray, List.set_cons_zero, List.set_cons_succ]
    refine J.J_take (i := 5) (v := ?_) LAST (by rfl) (by decide) (by kernel_rfl) (by kernel_rfl) (by intro _ _ _ h; exact h) HS (Or.inl ⟨by rfl, ?_⟩) ?_
    rotate_left
    · intro w hSw; (try dsimp only at hSw); go_simp; try with_reducible rfl
    try simp only [Act.put, List.setIfInBounds_toArray, List.set_cons_zero, List.set_cons_succ]
    refine J.J_take (i := 6) (v := ?_) LAST (by rfl) (by decide) (by kernel_rfl) (by kernel_rfl) (by intro _ _ _ h; exact h) HS (Or.inl ⟨by rfl, ?_⟩) ?_
    rotate_left
    · intro w hSw; (try dsimp only at hSw); go_simp; try with_reducible rfl
    try simp only [Act.put, List.setIfInBounds_toArray, List.set_cons_zero, List.set_cons_succ]
    refine J.J_take (i := 7) (v := ?_) LAST (by rfl) (by decide) (by kernel_rfl) (by kernel_rfl) (by intro _ _ _ h; exact h) HS (Or.inl ⟨by rfl, ?_⟩) ?_
    rotate_left
    · intro w hSw; (try dsimp only at hSw); go_simp; try with_reducible rfl
    try simp only [Act.put, List.setIfInBounds_toArray, List.set_cons_zero, List.set_cons_succ]
    refine J.J_take (i := 8) (v := ?_) LAST (by rfl) (by decide) (by kernel_rfl) (by kernel_rfl) (by intro _ _ _ h; exact h) HS (Or.inl ⟨by rfl, ?_⟩) ?_
    rotate_left
    · intro w hSw; (try dsimp only at hSw); go_simp; try with_reducible rfl
    try simp only [Act.put, List.setIfInBounds_toArray, List.set_cons_zero, List.set_cons_succ]
    refine J.J_one (i := 9) (by rfl) (by decide) (by kernel_rfl) (fun KK hK => ?_)
    go_simp
    refine (DP _).out.mono ?_
    rintro e w5 ⟨rfl, hu5⟩
    have u5 := hid (show Upd [] w4 w5 from (Upd.refl [] w4).drew.trans hu5 (fun t ht => by cases ht))
    go_simp
    refine hK.out _ _ ⟨u5.out.cell c0 (by simp), u5.out.cell c1 (by simp), u5.out.cell c2 (by simp), u5.out.cell d0 (by simp), u5.out.cell d1 (by simp), u5.out.cell d2 (by simp)⟩ ?_
    clear hK KK
    try simp only [List.setIfInBounds_toArray]
    have HS5 : w5.cell? ⟨g, i * 3, none⟩ = some (.int .i64 (x0 : Int)) ∧ w5.cell? ⟨g, i * 3 + 1, none⟩ = some (.int .i64 (x1 : Int)) ∧ w5.cell? ⟨g, i * 3 + 2, none⟩ = some (.int .i64 (x2 : Int)) ∧ w5.cell? ⟨g, (i + 1) * 3, none⟩ = some (.int .i64 (y0 : Int)) ∧ w5.cell? ⟨g, (i + 1) * 3 + 1, none⟩ = some (.int .i64 (y1 : Int)) ∧ w5.cell? ⟨g, (i + 1) * 3 + 2, none⟩ = some (.int .i64 (y2 : Int)) := ⟨u5.out.cell c0 (by simp), u5.out.cell c1 (by simp), u5.out.cell c2 (by simp), u5.out.cell d0 (by simp), u5.out.cell d1 (by simp), u5.out.cell d2 (by simp)⟩
    refine J.J_take (i := 10) (v := ?_) LAST (by rfl) (by decide) (by kernel_rfl) (by kernel_rfl) (by intro _ _ _ h; exact h) HS5 (Or.inl ⟨by rfl, ?_⟩) ?_
    rotate_left
    · intro w hSw; (try dsimp only at hSw); go_simp; try with_reducible rfl
    try simp only [Act.put, List.setIfInBounds_toArray, List.set_cons_zero, List.set_cons_succ]
    refine J.J_take (i := 11) (v := ?_) LAST (by rfl) (by decide) (by kernel_rfl) (by kernel_rfl) (by intro _ _ _ h; exact h) HS5 (Or.inl ⟨by rfl, ?_⟩) ?_
    rotate_left
    · intro w hSw; (try dsimp only at hSw); go_simp; try with_reducible rfl
    try simp only [Act.put, List.setIfInBounds_toArray, List.set_cons_zero, List.set_cons_succ]
    refine J.J_take (i := 12) (v := ?_) LAST (by rfl) (by decide) (by kernel_rfl) (by kernel_rfl) (by intro _ _ _ h; exact h) HS5 (Or.inl ⟨by rfl, ?_⟩) ?_
    rotate_left
    · intro w hSw; (try dsimp only at hSw); go_simp; try with_reducible rfl
    try simp only [Act.put, List.setIfInBounds_toArray, List.set_cons_zero, List.set_cons_succ]
    refine J.J_take (i := 13) (v := ?_) LAST (by rfl) (by decide) (by kernel_rfl) (by kernel_rfl) (by intro _ _ _ h; exact h) HS5 (Or.inl ⟨by rfl, ?_⟩) ?_
    rotate_left
    · intro w hSw; (try dsimp only at hSw); go_simp; try with_reducible rfl
    try simp only [Act.put, List.setIfInBounds_toArray, List.set_cons_zero, List.set_cons_succ]
    refine J.J_last (by rfl) (by kernel_rfl) (by kernel_rfl) ?_
    clear LAST HS HS5 hu5 DP c0 c1 c2 d0 d1 d2
    have U5 := hid (U4.out.trans u5.out (fun t ht => by cases ht))
    have A5 := hid (A4.out.new u5.out)
    have B5 := hid (B4.out.new u5.out)
    have SM := hid (same_any _ _ L (swp L i) n k2 n k3 w5 HN.out h40 (by have h := A5.out; rw [HN.out] at h; exact h.at) (by rw [swp_len]; exact HN.out) h40 (by have h := B5.out; rw [HN.out, ← swp_len L i] at h; exact h.at))
    clear U4 A4 B4 B5 u5
    go_simp
    go_wp2_with fail
    refine SM.out.mono ?_
    rintro e w6 ⟨q, rfl, hq, hu⟩
    have Q6 := hid hq
    have U6 := hid (U5.out.trans hu (fun t ht => by cases ht))
    have A6 := hid (A5.out.new hu)
    clear hq hu SM U5 A5
    obtain ⟨c0, c1, c2⟩ := A6.out.cell (i := i) (by have := IL.out; omega)
    obtain ⟨d0, d1, d2⟩ := A6.out.cell (i := i + 1) IL.out
    rw [← HXX.out, CX.out.1] at c0
    rw [← HXX.out, CX.out.2.1] at c1
    rw [← HXX.out, CX.out.2.2] at c2
    rw [← HYY.out, CY.out.1] at d0
    rw [← HYY.out, CY.out.2.1] at d1
    rw [← HYY.out, CY.out.2.2] at d2
    cases dd with
    | false =>
      have hq : q = true := Q6.out.2 (swp_proj IL.out (by rw [← HXX.out, ← HYY.out]; exact HDD.out.symm))
      subst hq
      go_wp2_with fail
      go_quiet (fail)
      go_wp2_with fail
      go_ret
      exact ⟨rfl, U6.out.drewN nq⟩
    | true =>
      cases q with
      | false =>
        go_wp2_with fail
        go_quiet (fail)
        go_wp2_with fail
        go_ret
        exact ⟨rfl, U6.out.drewN nq⟩
      | true =>
        have hxy := swp_same IL.out (by rw [← HXX.out, ← HYY.out]; exact HDD.out.symm) (Q6.out.1 rfl)
        rw [← HXX.out, ← HYY.out] at hxy
        have EQ' : ∀ w, (binOp .eql 29 (.agg #[.int .i64 (x0 : Int), .int .i64 (x1 : Int), .int .i64 (x2 : Int)]) (.agg #[.int .i64 (y0 : Int), .int .i64 (y1 : Int), .int .i64 (y2 : Int)])).run Try.prog w = .ok (.bool true) w := fun w => by
          have h := (EQ w).out
          rw [decide_eq_true hxy] at h
          exact h
        clear EQ hxy Q6
        go_wp2_with fail
        go_quiet (fail)
        go_wp2_with fail
        go_ret
        exact ⟨rfl, U6.out.drewN nq⟩
end Go.Proofs.Ytnikkakeiajmgaa.Pm
