/- The walks of slices.Clone, Contains, Grow, Concat of two rows, and of shrink's own without, for rows of integers. -/
import Derived.Test.YtnikkakeiajmgaaSo
import Derived.Test.YtnikkakeiajmgaaPn
namespace Go.Proofs.Ytnikkakeiajmgaa.Sh
open Go Go.RowKit Go.Proofs.Ytnikkakeiajmgaa Go.Proofs.Ytnikkakeiajmgaa.K Go.Proofs.Ytnikkakeiajmgaa.M Go.Proofs.Ytnikkakeiajmgaa.O Go.Proofs.Ytnikkakeiajmgaa.R Go.Proofs.Ytnikkakeiajmgaa.So Go.Proofs.Ytnikkakeiajmgaa.Pa

/-- A row of integers. -/
def LR (w : World) (a : Option Addr) (n c : Nat) (xs : List Int) : Prop := IntRow w a xs ∧ xs.length = n ∧ n ≤ c ∧ c ≤ 9223372036854775807
theorem LR.upd {w w' : World} {a : Option Addr} {n c : Nat} {xs : List Int} (h : LR w a n c xs) (u : Upd [] w w') : LR w' a n c xs := ⟨h.1.upd u, h.2⟩
theorem LR.isome {w : World} {a : Option Addr} {n c : Nat} {xs : List Int} (h : LR w a n c xs) (hn : 0 < n) : ∃ x, a = some x := by
  obtain ⟨h1, h2, _⟩ := h
  obtain ⟨x, e, _⟩ := h1 0 (by omega)
  exact ⟨x, e⟩
theorem LR.cells {w : World} {x : Addr} {n c : Nat} {xs : List Int} (h : LR w (some x) n c xs) : ∀ j u, (ints xs)[j]? = some u → w.cell? (x.add j) = some u := fun j u hu => by
  have hj : j < xs.length := by
    have := (List.getElem?_eq_some_iff.1 hu).1; rwa [ints_length] at this
  obtain ⟨y, e, hc⟩ := h.1 j hj
  cases e
  rw [ints_get _ _ hj] at hu
  rw [hc, hu]
theorem q22 (w : World) (a : Option Addr) (n c n' c' : Nat) : (binOp .eql 22 (.slice a n c) (.slice none n' c')).run Try.prog w = .ok (.bool a.isNone) w := Lib.run_eql_slice_nil w _ _ a n c n' c' Try.underlying22
theorem LR.of_own {w : World} {base : Nat} {v : Value} {n : Nat} {l : List Int} (h : w.ownsRow base 3 1 v n (ints l)) : ∃ a c, v = .slice a n c ∧ LR w a n c l := by
  have hl : l.length = n := by have := h.1; rw [ints_length] at this; omega
  obtain ⟨a, c, rfl, h1, h2, hc⟩ := own_view h
  refine ⟨a, c, rfl, fun i hi => ?_, hl, h1, h2⟩
  obtain ⟨g, rfl, _, h3, _⟩ := hc i _ (ints_get l i hi)
  exact ⟨_, rfl, by rw [addz]; exact h3⟩

set_option maxHeartbeats 4000000 in
set_option maxRecDepth 100000 in
theorem clone_any (a : Option Addr) (n c : Nat) (xs : List Int) (w : World) (h : LR w a n c xs) (hn : n * 8 ≤ 140737488351232) :
    Calls Try.prog 30 #[.slice a n c] w fun e w' => ∃ v, e = .returned v ∧ w'.ownsRow w.heap.size 3 1 v n (ints xs) ∧ Upd [] w w' := by
  cases a with
  | none =>
    have h0 : n = 0 := by
      by_cases h0 : 0 < n
      · obtain ⟨x, e⟩ := h.isome h0; cases e
      · omega
    subst h0
    have hx : xs = [] := List.eq_nil_of_length_eq_zero h.2.1
    subst hx
    have q := q22
    clear h
    go_enter Try.func30, Try.ntmps30
    go_wp2_with fail
    go_ret
    exact ⟨_, rfl, World.ownsRow_nil _ _ _ _, Upd.refl _ _⟩
  | some x =>
    obtain ⟨i0, hi, hz0, hz1, hz2⟩ := info_parts info3
    have HL := hid h.2.1
    have HC := hid h.cells
    have HI := hid hi
    have H0 := hid hz0
    have H1 := hid hz1
    have H2 := hid hz2
    clear h hi hz0 hz1 hz2
    have q := q22
    obtain ⟨B, hB⟩ : ∃ B, B = w.heap.size := ⟨_, rfl⟩
    obtain ⟨w1, hw1⟩ : ∃ w1, w1 = w.alloc (.cells #[] 3) := ⟨_, rfl⟩
    have u1 := hid (show Upd [] w w1 by rw [hw1]; exact (Upd.refl [] w).alloc _)
    have M1 := hid (show w1.ownsRow B 3 1 (.slice (some ⟨B, 0, none⟩) 0 0) 0 [] by rw [hw1, hB]; exact World.ownsRow_made w #[] 0 (Nat.le_refl _) (Nat.zero_le _) rfl)
    have S1 := hid (show B ≤ w1.heap.size by rw [hB]; exact u1.out.size)
    have HB := hid hB
    rw [← hB]
    go_enter Try.func30, Try.ntmps30
    go_wp2_with (first | (at_builtin; rw [← hw1, ← hB]; refine wpList_append_own_at (w := w1) rfl (.tmp 5) (.tmp 6) 22 rfl B 3 i0 _ 1 8 Try.underlying22 HI.out H0.out H1.out H2.out rfl (by decide) (.slice (some ⟨B, 0, none⟩) 0 0) 0 [] rfl M1.out x n c (ints xs) rfl (by rw [ints_length, HL.out]; omega) (fun j u hu => u1.out.cell (HC.out j u hu) (by simp)) (ints_one xs) (by unfold maxLen; omega) (by omega) S1.out ?_; intro v6 w6 h1 h2 _ _; have O6 := hid h1; have G6 := hid h2; clear h1 h2))
    go_ret
    have ho := O6.out
    rw [List.nil_append, Nat.zero_add] at ho
    exact ⟨_, rfl, ho, u1.out.grown G6.out (fun k hk => by
      have e : B = k := by cases hk; rfl
      right; rw [← e, HB.out]; exact Nat.le_refl _)⟩

set_option maxHeartbeats 4000000 in
set_option maxRecDepth 100000 in
theorem index_any (a : Option Addr) (n c : Nat) (xs : List Int) (x : Int) (w : World) (h : LR w a n c xs) :
    Calls Try.prog 46 #[.slice a n c, .int .i64 x] w fun e w' => (∃ r : Int, e = .returned (.int .i64 r) ∧ (0 ≤ r ↔ x ∈ xs)) ∧ w' = w := by
  have HX := hid h.1
  have HL := hid h.2.1
  have hn9 : n ≤ 9223372036854775807 := by have := h.2.2; omega
  clear h
  go_enter Try.func46, Try.ntmps46
  go_wp2_with fail
  go_loopg [8] n (fun d v8 wr => ∃ (i : Nat), v8 = .int .i64 (i : Int) ∧ i ≤ n ∧ Hid (i + d = n) ∧ Hid (x ∉ xs.take i) ∧ wr = w)
  case atStart => exact ⟨0, rfl, by omega, hid (by omega), hid (by simp), rfl⟩
  case round =>
    obtain ⟨i, rfl, hin, Hi, HF, hw⟩ := hrel
    have hw' := hw.symm
    subst hw'
    clear hw
    by_cases hi : i < n
    · have hi' : (i : Int) < (n : Int) := by omega
      obtain ⟨y, rfl, hc⟩ := HX.out i (by rw [HL.out]; exact hi)
      have hix : i < xs.length := by rw [HL.out]; exact hi
      have HTK := hid (show xs.take (i + 1) = xs.take i ++ [xs.getD i 0] by
        rw [List.take_add_one, List.getD_eq_getElem?_getD, List.getElem?_eq_getElem hix]; rfl)
      have HM := hid (show xs.getD i 0 ∈ xs by rw [List.getD_eq_getElem?_getD, List.getElem?_eq_getElem hix]; exact List.getElem_mem hix)
      obtain ⟨z, hz⟩ : ∃ z, z = xs.getD i 0 := ⟨_, rfl⟩
      rw [← hz] at hc HTK HM
      clear hz hix
      by_cases hxz : x = z
      · have hb : (x == z) = true := by rw [beq_iff_eq]; exact hxz
        have HXZ := hid hxz
        clear hxz
        go_wp2_with fail
        go_ret
        exact ⟨⟨(i : Int), rfl, ⟨fun _ => by rw [HXZ.out]; exact HM.out, fun _ => by omega⟩⟩, rfl⟩
      · have hb : (x == z) = false := by rw [beq_eq_false_iff_ne]; exact hxz
        have HXZ := hid hxz
        clear hxz
        go_wp2_with fail
        go_roundg (n - (i + 1))
        case measure => have := Hi.out; omega
        case rel =>
          refine ⟨i + 1, by go_num, by omega, hid (by omega), hid (fun hm => ?_), rfl⟩
          rw [HTK.out] at hm
          rcases List.mem_append.1 hm with hm | hm
          · exact HF.out hm
          · exact HXZ.out (by simpa using hm)
    · have ei : i = n := by omega
      have hi' : ¬ (i : Int) < (n : Int) := by omega
      have hf := HF.out
      rw [ei, List.take_of_length_le (by rw [HL.out]; exact Nat.le_refl _)] at hf
      have HF2 := hid hf
      clear hf ei
      go_wp2_with fail
      go_ret
      exact ⟨⟨-1, rfl, ⟨fun h => by omega, fun h => absurd h HF2.out⟩⟩, rfl⟩
set_option maxHeartbeats 4000000 in
theorem contains_any (a : Option Addr) (n c : Nat) (xs : List Int) (x : Int) (w : World) (h : LR w a n c xs) :
    Calls Try.prog 29 #[.slice a n c, .int .i64 x] w fun e w' => e = .returned (.bool (decide (x ∈ xs))) ∧ w' = w := by
  have ix := hid (index_any a n c xs x w h)
  clear h
  go_enter Try.func29, Try.ntmps29
  go_wp2_with fail
  refine ix.out.mono ?_
  rintro e w6 ⟨⟨r, rfl, hr⟩, rfl⟩
  have HR := hid hr
  clear ix hr
  go_wp2_with fail
  go_ret
  exact ⟨K.ret_bool (decide_eq_decide.2 HR.out), rfl⟩

set_option maxHeartbeats 4000000 in
set_option maxRecDepth 100000 in
theorem grow_zero (w : World) : Calls Try.prog 70 #[.slice none 0 0, .int .i64 0] w fun e w' => e = .returned (.slice none 0 0) ∧ w' = w := by
  go_enter Try.func70, Try.ntmps70
  go_wp2_with fail
  go_ret
  exact ⟨rfl, rfl⟩

set_option maxHeartbeats 4000000 in
set_option maxRecDepth 100000 in
theorem grow_any (n : Nat) (w : World) (h0 : 0 < n) (hn : n ≤ 200) :
    Calls Try.prog 70 #[.slice none 0 0, .int .i64 (n : Int)] w fun e w' => ∃ v, e = .returned v ∧ w'.ownsRow w.heap.size 3 1 v 0 (ints []) ∧ Upd [] w w' := by
  obtain ⟨i0, hi, hz0, hz1, hz2⟩ := info_parts info3
  have hold : (Builtin.firstCells i0.size 0 (.slice none 0 0)).run Try.prog w.drew = .ok #[] w.drew := run_firstCells_none w.drew i0.size 0 0 0
  have hrz : ∀ ty, (Builtin.append_ #[22, 3] ty #[.slice none 0 0, .int .i64 (n : Int)]).run Try.prog w =
      .ok (.slice (some ⟨w.heap.size, 0, none⟩) n (grownCap w n 0 3)) (w.drew.alloc (.cells ((#[] : Array Value) ++ Builtin.zeroCells (Value.cells (.int .i64 0)) n ++ Builtin.zeroCells (Value.cells (.int .i64 0)) (grownCap w n 0 3 - n)) 3)) := fun ty => by
    have h := Lib.run_append_grow_zeros w 22 3 ty 3 i0 (.int .i64 0) .i64 .i64 Try.underlying22 Try.underlying3 hi hz0 none 0 0 [] hold n h0 (by omega) (by omega) (by omega) (by rw [hz2]; omega)
      (growslice_fits (by omega) (by rw [hz2]; omega))
    simpa using h
  have hG1 : n ≤ grownCap w n 0 3 := grownCap_ge w _ _ _
  have hG2 : grownCap w n 0 3 ≤ maxLen := grownCap_le_maxLen w n 0 3 (by unfold maxLen; omega)
  obtain ⟨G, hG⟩ : ∃ G, G = grownCap w n 0 3 := ⟨_, rfl⟩
  rw [← hG] at hrz hG1 hG2
  have HM := hid hG2
  have hG63 : G ≤ 9223372036854775807 := hG2
  clear hold hG hi hz0 hz1 hz2 hG2
  go_enter Try.func70, Try.ntmps70
  go_wp2_with (at_builtin; refine Lib.wpList_append_run _ rfl _ _ _ _ rfl _ _ rfl rfl _ _ (hrz _) ?_)
  go_ret
  refine ⟨_, rfl, ⟨rfl, .inr ⟨w.heap.size, G, _, rfl, Nat.le_refl _, blk_new w _, Nat.zero_le _, HM.out, ?_, by simp [ints]⟩⟩, ((Upd.refl [] w).alloc _).drew⟩
  simp [Builtin.zeroCells]; omega

theorem grow_all (n : Nat) (w : World) (hn : n ≤ 200) :
    Calls Try.prog 70 #[.slice none 0 0, .int .i64 (n : Int)] w fun e w' => ∃ v, e = .returned v ∧ w'.ownsRow w.heap.size 3 1 v 0 (ints []) ∧ Upd [] w w' := by
  by_cases h : n = 0
  · subst h
    exact (grow_zero w).mono fun e w' ⟨he, hw⟩ => ⟨_, he, World.ownsRow_nil _ _ _ _, by rw [hw]; exact Upd.refl _ _⟩
  · exact grow_any n w (by omega) hn
end Go.Proofs.Ytnikkakeiajmgaa.Sh
