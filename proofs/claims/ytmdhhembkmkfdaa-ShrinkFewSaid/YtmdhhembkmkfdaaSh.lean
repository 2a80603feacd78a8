/- The walks of slices.Clone, slices.Grow, slices.Concat of two rows, and of shrink's own without, for rows of integers. -/
import Derived.Test.YtmdhhembkmkfdaaCL
import Derived.Lib.AppendZerosOnto
import Derived.Lib.SliceRun
import Derived.BigRegion
import Derived.Deep.RegionWith
namespace Go.Proofs.Ytmdhhembkmkfdaa.Sh
open Go Go.RowKit Go.Proofs.Ytmdhhembkmkfdaa.K Go.Proofs.Ytmdhhembkmkfdaa.O Go.Proofs.Ytmdhhembkmkfdaa.CL

/-- Some row of n integers. -/
def LRow (w : World) (a : Option Addr) (n c : Nat) : Prop := ∃ xs : List Int, IntRow w a xs ∧ xs.length = n ∧ n ≤ c ∧ c ≤ 9223372036854775807
theorem LRow.upd {w w' : World} {a : Option Addr} {n c : Nat} (h : LRow w a n c) (u : Upd [] w w') : LRow w' a n c := by
  obtain ⟨xs, h1, h2⟩ := h; exact ⟨xs, h1.upd u, h2⟩
theorem LRow.isome {w : World} {a : Option Addr} {n c : Nat} (h : LRow w a n c) (hn : 0 < n) : ∃ x, a = some x := by
  obtain ⟨xs, h1, h2, _⟩ := h
  obtain ⟨x, e, _⟩ := h1 0 (by omega)
  exact ⟨x, e⟩
theorem LRow.cells {w : World} {x : Addr} {n c : Nat} (h : LRow w (some x) n c) : ∃ xs : List Int, xs.length = n ∧ ∀ j u, (ints xs)[j]? = some u → w.cell? (x.add j) = some u := by
  obtain ⟨xs, h1, h2, _⟩ := h
  refine ⟨xs, h2, fun j u hu => ?_⟩
  have hj : j < xs.length := by
    have := (List.getElem?_eq_some_iff.1 hu).1; rwa [ints_length] at this
  obtain ⟨y, e, hc⟩ := h1 j hj
  cases e
  rw [ints_get _ _ hj] at hu
  rw [hc, hu]
theorem q22 (w : World) (a : Option Addr) (n c n' c' : Nat) : (binOp .eql 22 (.slice a n c) (.slice none n' c')).run Try.prog w = .ok (.bool a.isNone) w := Lib.run_eql_slice_nil w _ _ a n c n' c' Try.underlying22
theorem one_ints (xs : List Int) : ∀ u ∈ ints xs, u.oneCell' = true := by
  intro u hu; simp only [ints, List.mem_map] at hu; obtain ⟨n, _, rfl⟩ := hu; rfl
theorem LRow.of_own {w : World} {base : Nat} {v : Value} {n : Nat} {l : List Int} (h : w.ownsRow base 3 1 v n (ints l)) : ∃ a c, v = .slice a n c ∧ LRow w a n c := by
  have hl : l.length = n := by have := h.1; rw [ints_length] at this; omega
  subst hl
  obtain ⟨a, c, e, h1, h2, h3⟩ := intRow_of h
  exact ⟨a, c, e, l, h3, rfl, h1, h2⟩

set_option maxHeartbeats 4000000 in
set_option maxRecDepth 100000 in
theorem clone_some (x : Addr) (n c : Nat) (w : World) (h : LRow w (some x) n c) (hn : n ≤ 200) :
    Calls Try.prog 57 #[.slice (some x) n c] w fun e w' => ∃ a k, e = .returned (.slice a n k) ∧ LRow w' a n k ∧ Upd [] w w' := by
  obtain ⟨i0, hi, hz0, hz1, hz2⟩ := info_parts CL.info3
  obtain ⟨xs, hl, hc⟩ := h.cells
  have HL := hid hl
  have HC := hid hc
  have HI := hid hi
  have H0 := hid hz0
  have H1 := hid hz1
  have H2 := hid hz2
  clear h hl hc hi hz0 hz1 hz2
  have q := q22
  go_enter Try.func57, Try.ntmps57
  go_wp2_with (at_builtin; refine wpList_append_own_at _ rfl _ _ 22 rfl w.heap.size 3 i0 (.int .i64 0) 1 8 Try.underlying22 HI.out H0.out H1.out H2.out rfl (by decide) (.slice (some ⟨w.heap.size, 0, none⟩) 0 0) 0 [] rfl (World.ownsRow_made w #[] 0 (Nat.le_refl _) (Nat.zero_le _) rfl) x n c (ints xs) rfl (by rw [ints_length, HL.out]; omega) (fun j u hj => Lib.cell?_alloc_some _ (HC.out j u hj)) (one_ints xs) (by unfold maxLen; omega) (by omega) (by simp) ?_; intro v' w1 hown hgrow _ _; have HO := hid hown; have HG := hid hgrow; clear hown hgrow)
  go_wp2_with fail
  go_ret
  have ho := HO.out
  rw [List.nil_append, Nat.zero_add] at ho
  obtain ⟨a, k, rfl, hr⟩ := LRow.of_own ho
  refine ⟨a, k, rfl, hr, ((Upd.refl [] w).alloc _).grown HG.out (fun k hk => ?_)⟩
  have e : w.heap.size = k := by cases hk; rfl
  right; omega

set_option maxHeartbeats 4000000 in
set_option maxRecDepth 100000 in
theorem clone_none (n c : Nat) (w : World) :
    Calls Try.prog 57 #[.slice none n c] w fun e w' => e = .returned (.slice none 0 0) ∧ w' = w := by
  have q := q22
  go_enter Try.func57, Try.ntmps57
  go_wp2_with fail
  go_ret
  exact ⟨rfl, rfl⟩

set_option maxHeartbeats 4000000 in
set_option maxRecDepth 100000 in
theorem grow_zero (w : World) : Calls Try.prog 66 #[.slice none 0 0, .int .i64 0] w fun e w' => e = .returned (.slice none 0 0) ∧ w' = w := by
  go_enter Try.func66, Try.ntmps66
  go_wp2_with fail
  go_ret
  exact ⟨rfl, rfl⟩

set_option maxHeartbeats 4000000 in
set_option maxRecDepth 100000 in
theorem grow_any (n : Nat) (w : World) (h0 : 0 < n) (hn : n ≤ 200) :
    Calls Try.prog 66 #[.slice none 0 0, .int .i64 (n : Int)] w fun e w' => ∃ v, e = .returned v ∧ w'.ownsRow w.heap.size 3 1 v 0 (ints []) ∧ Upd [] w w' := by
  obtain ⟨i0, hi, hz0, hz1, hz2⟩ := info_parts CL.info3
  have hold : (Builtin.firstCells i0.size 0 (.slice none 0 0)).run Try.prog w.drew = .ok #[] w.drew := run_firstCells_none w.drew i0.size 0 0 0
  have hrz : ∀ ty, (Builtin.append_ #[22, 3] ty #[.slice none 0 0, .int .i64 (n : Int)]).run Try.prog w =
      .ok (.slice (some ⟨w.heap.size, 0, none⟩) n (grownCap w n 0 3)) (w.drew.alloc (.cells ((#[] : Array Value) ++ Builtin.zeroCells (Value.cells (.int .i64 0)) n ++ Builtin.zeroCells (Value.cells (.int .i64 0)) (grownCap w n 0 3 - n)) 3)) := fun ty => by
    have h := Lib.run_append_grow_zeros w 22 3 ty 3 i0 (.int .i64 0) .i64 .i64 Try.underlying22 Try.underlying3 hi hz0 none 0 0 [] hold n h0 (by omega) (by omega) (by omega) (by rw [hz2]; omega)
      (growslice_fits (by omega) (by rw [hz2]; omega))
    simpa using h
  have hG1 : n ≤ grownCap w n 0 3 := grownCap_ge w _ _ _
  have hG2 : grownCap w n 0 3 ≤ maxLen := grownCap_le_maxLen w n 0 3 (by unfold maxLen; omega)
  obtain ⟨G, hG⟩ : ∃ G, G = grownCap w n 0 3 := ⟨_, rfl⟩
  rw [← hG] at hrz hG1 hG2
  have HM := hid hG2
  have hG63 : G ≤ 9223372036854775807 := hG2
  clear hold hG hi hz0 hz1 hz2 hG2
  go_enter Try.func66, Try.ntmps66
  go_wp2_with (at_builtin; refine Lib.wpList_append_run _ rfl _ _ _ _ rfl _ _ rfl rfl _ _ (hrz _) ?_)
  go_ret
  refine ⟨_, rfl, ⟨rfl, .inr ⟨w.heap.size, G, _, rfl, Nat.le_refl _, blk_new w _, Nat.zero_le _, HM.out, ?_, by simp [ints]⟩⟩, ((Upd.refl [] w).alloc _).drew⟩
  simp [Builtin.zeroCells, Value.cells]; omega

theorem grow_all (n : Nat) (w : World) (hn : n ≤ 200) :
    Calls Try.prog 66 #[.slice none 0 0, .int .i64 (n : Int)] w fun e w' => ∃ v, e = .returned v ∧ w'.ownsRow w.heap.size 3 1 v 0 (ints []) ∧ Upd [] w w' := by
  by_cases h : n = 0
  · subst h
    exact (grow_zero w).mono fun e w' ⟨he, hw⟩ => ⟨_, he, World.ownsRow_nil _ _ _ _, by rw [hw]; exact Upd.refl _ _⟩
  · exact grow_any n w (by omega) hn

set_option maxHeartbeats 4000000 in
set_option maxRecDepth 100000 in
theorem concat_any (x y : Addr) (n m c d : Nat) (w : World) (g : Nat) (hg0 : w.cell? ⟨g, 0, none⟩ = some (.slice (some x) n c)) (hg1 : w.cell? ⟨g, 1, none⟩ = some (.slice (some y) m d)) (hx : LRow w (some x) n c) (hy : LRow w (some y) m d) (hn : n + m ≤ 200) :
    Calls Try.prog 65 #[.slice (some ⟨g, 0, none⟩) 2 2] w fun e w' => ∃ a k, e = .returned (.slice a (n + m) k) ∧ LRow w' a (n + m) k ∧ Upd [] w w' := by
  obtain ⟨i0, hi, hz0, hz1, hz2⟩ := info_parts CL.info3
  have HI := hid hi
  have H0 := hid hz0
  have H1 := hid hz1
  have H2 := hid hz2
  have HX := hid hx
  have HY := hid hy
  have HG0 := hid hg0
  have HG1 := hid hg1
  clear hi hz0 hz1 hz2 hx hy
  go_enter Try.func65, Try.ntmps65
  go_wp2_with fail
  go_loopg [3, 11] 2 (fun dd v3 v11 wr => ∃ (j s : Nat), v3 = .int .i64 (s : Int) ∧ v11 = .int .i64 (j : Int) ∧ Hid (j + dd = 2) ∧ Hid ((j = 0 ∧ s = 0) ∨ (j = 1 ∧ s = n) ∨ (j = 2 ∧ s = n + m)) ∧ Hid (wr = w))
  case atStart => exact ⟨0, 0, rfl, rfl, rfl, .inl ⟨rfl, rfl⟩, rfl⟩
  case round =>
    obtain ⟨j, s, rfl, rfl, Hj, Hs, Hw⟩ := hrel
    obtain rfl := Hw.out
    rcases Hs.out with ⟨rfl, rfl⟩ | ⟨rfl, rfl⟩ | ⟨rfl, rfl⟩
    · go_wp2_with fail
      go_roundg 1
      case measure => have := Hj.out; omega
      case rel => exact ⟨1, n, by go_num, rfl, rfl, .inr (.inl ⟨rfl, rfl⟩), rfl⟩
    · go_wp2_with fail
      go_roundg 0
      case measure => have := Hj.out; omega
      case rel => exact ⟨2, s + m, by go_num, rfl, rfl, .inr (.inr ⟨rfl, rfl⟩), rfl⟩
    · clear Hs Hw Hj
      go_wp2_with fail
      rw [show (n : Int) + (m : Int) = ((n + m : Nat) : Int) by omega]
      obtain ⟨B, hB⟩ : ∃ B, B = wr.heap.size := ⟨_, rfl⟩
      have HB := hid hB
      refine (grow_all (n + m) wr hn).mono ?_
      rintro e w1 ⟨v1, rfl, ho, hu⟩
      rw [← hB] at ho
      have HO1 := hid ho
      have HU1 := hid hu
      clear ho hu hB
      go_wp2_with fail
      go_loopg [6, 27] 2 (fun dd v6 v27 wq => ∃ (j s : Nat) (l : List Int), v27 = .int .i64 (j : Int) ∧ Hid (j + dd = 2) ∧ Hid ((j = 0 ∧ s = 0) ∨ (j = 1 ∧ s = n) ∨ (j = 2 ∧ s = n + m)) ∧ Hid (wq.ownsRow B 3 1 v6 s (ints l)) ∧ Hid (Upd [] wr wq))
      case atStart => exact ⟨0, 0, [], rfl, rfl, .inl ⟨rfl, rfl⟩, HO1.out, HU1.out⟩
      case round =>
        clear HO1 HU1
        obtain ⟨j, s, l, rfl, Hj, Hs, HO, HU⟩ := hrel
        have hg0 := HU.out.cell HG0.out (by simp)
        have hg1 := HU.out.cell HG1.out (by simp)
        obtain ⟨xs, hxl, hxc⟩ := (HX.out.upd HU.out).cells
        obtain ⟨ys, hyl, hyc⟩ := (HY.out.upd HU.out).cells
        have XL := hid hxl
        have XC := hid hxc
        have YL := hid hyl
        have YC := hid hyc
        clear hxl hxc hyl hyc
        rcases Hs.out with ⟨rfl, rfl⟩ | ⟨rfl, rfl⟩ | ⟨rfl, rfl⟩
        · go_wp2_with (at_builtin; refine wpList_append_own_at _ rfl _ _ 22 rfl B 3 i0 (.int .i64 0) 1 8 Try.underlying22 HI.out H0.out H1.out H2.out rfl (by decide) u6 0 (ints l) rfl HO.out x n c (ints xs) rfl (by rw [ints_length, XL.out]; omega) (fun j u hj => XC.out j u hj) (one_ints xs) (by unfold maxLen; omega) (by omega) (by rw [HB.out]; exact HU.out.size) ?_; intro v' w2 hown hgrow _ _; have HO2 := hid hown; have HG2 := hid hgrow; clear hown hgrow)
          go_wp2_with fail
          go_roundg 1
          case measure => have := Hj.out; omega
          case rel => exact ⟨1, n, l ++ xs, by go_num, rfl, .inr (.inl ⟨rfl, rfl⟩), by have := HO2.out; show World.ownsRow _ _ _ _ _ _ _; simpa [ints] using this, HU.out.grown HG2.out (fun k hk => .inr (by rw [← HB.out]; exact own_ge HO.out k hk))⟩
        · go_wp2_with (at_builtin; refine wpList_append_own_at _ rfl _ _ 22 rfl B 3 i0 (.int .i64 0) 1 8 Try.underlying22 HI.out H0.out H1.out H2.out rfl (by decide) u6 s (ints l) rfl HO.out y m d (ints ys) rfl (by rw [ints_length, YL.out]; omega) (fun j u hj => YC.out j u hj) (one_ints ys) (by unfold maxLen; omega) (by omega) (by rw [HB.out]; exact HU.out.size) ?_; intro v' w2 hown hgrow _ _; have HO2 := hid hown; have HG2 := hid hgrow; clear hown hgrow)
          go_wp2_with fail
          go_roundg 0
          case measure => have := Hj.out; omega
          case rel => exact ⟨2, s + m, l ++ ys, by go_num, rfl, .inr (.inr ⟨rfl, rfl⟩), by have := HO2.out; show World.ownsRow _ _ _ _ _ _ _; simpa [ints] using this, HU.out.grown HG2.out (fun k hk => .inr (by rw [← HB.out]; exact own_ge HO.out k hk))⟩
        · go_wp2_with fail
          go_ret
          obtain ⟨a, k, rfl, hr⟩ := LRow.of_own HO.out
          exact ⟨a, k, rfl, hr, HU.out⟩

theorem concat_at (x y : Addr) (n m c d : Nat) (w : World) (hx : LRow w (some x) n c) (hy : LRow w (some y) m d) (hn : n + m ≤ 200) :
    Calls Try.prog 65 #[.slice (some ⟨w.heap.size, 0, none⟩) 2 2] (w.alloc (.cells #[.slice (some x) n c, .slice (some y) m d] 22)).drew fun e w' => ∃ a k, e = .returned (.slice a (n + m) k) ∧ LRow w' a (n + m) k ∧ Upd [] w w' := by
  have hu : Upd [] w (w.alloc (.cells #[.slice (some x) n c, .slice (some y) m d] 22)).drew := ((Upd.refl _ _).alloc _).drew
  have hb := blk_new w (.cells #[.slice (some x) n c, .slice (some y) m d] 22)
  exact (concat_any x y n m c d (w.alloc (.cells #[.slice (some x) n c, .slice (some y) m d] 22)).drew w.heap.size ((blk_cell hb 0).trans rfl) ((blk_cell hb 1).trans rfl) (hx.upd hu) (hy.upd hu) hn).mono
    fun e w' ⟨a, k, he, h, u⟩ => ⟨a, k, he, h, hu.trans u (by simp)⟩
theorem LRow.take {w : World} {a : Option Addr} {n c f : Nat} (h : LRow w a n c) (hf : f ≤ n) : LRow w a f c := by
  obtain ⟨xs, h1, h2, h3, h4⟩ := h
  exact ⟨xs.take f, h1.take f, by simp; omega, by omega, h4⟩
theorem add_add (x : Addr) (i j : Nat) : (x.add i).add j = x.add (i + j) := by
  unfold Addr.add
  split <;> split <;> (try split) <;> simp_all <;> omega
theorem LRow.drop {w : World} {x : Addr} {n c t : Nat} (h : LRow w (some x) n c) (ht : t ≤ n) : LRow w (some (x.add t)) (n - t) (c - t) := by
  obtain ⟨xs, h1, h2, h3, h4⟩ := h
  refine ⟨xs.drop t, fun i hi => ?_, by simp; omega, by omega, by omega⟩
  have hi' : t + i < xs.length := by simp at hi; omega
  obtain ⟨y, e, hc⟩ := h1 (t + i) hi'
  cases e
  refine ⟨_, rfl, ?_⟩
  rw [add_add, hc]
  simp [List.getD_eq_getElem?_getD]
theorem LRow.zero {w : World} (a : Option Addr) : LRow w a 0 0 := ⟨[], fun i hi => by simp at hi, rfl, by omega, by omega⟩

set_option maxHeartbeats 4000000 in
set_option maxRecDepth 100000 in
theorem without_any (x : Addr) (n c f t : Nat) (w : World) (h : LRow w (some x) n c) (hft : f ≤ t) (ht : t ≤ n) (hn : n ≤ 200) :
    Calls Try.prog 58 #[.slice (some x) n c, .int .i64 (f : Int), .int .i64 (t : Int)] w fun e w' => ∃ a k, e = .returned (.slice a (f + (n - t)) k) ∧ LRow w' a (f + (n - t)) k ∧ Upd [] w w' := by
  have HH := hid h
  have hnc : n ≤ c ∧ c ≤ 9223372036854775807 := by obtain ⟨_, _, _, h1, h2⟩ := h; exact ⟨h1, h2⟩
  obtain ⟨hnc, hc⟩ := hnc
  clear h
  have hfc : f ≤ c := by omega
  have htc : t ≤ c := by omega
  by_cases hct : c = t
  · subst hct
    obtain rfl : n = c := by omega
    go_enter Try.func58, Try.ntmps58
    go_wp2_with fail
    go_region_with (go_at_call 65; refine (concat_at x x f 0 n 0 w (HH.out.take hft) (LRow.zero _) (by omega)).mono ?_; rintro e w1 ⟨a, k, rfl, hr, hu⟩; have HR := hid hr; have HU := hid hu; clear hr hu)
    go_wp2_with fail
    go_ret
    have e : f + (n - n) = f + 0 := by omega
    refine ⟨a, k, ?_, by rw [e]; exact HR.out, HU.out⟩
    rw [e]; rfl
  · go_enter Try.func58, Try.ntmps58
    go_wp2_with fail
    go_region_with (go_at_call 65; refine (concat_at x (x.add t) f (n - t) c (c - t) w (HH.out.take (by omega)) (HH.out.drop ht) (by omega)).mono ?_; rintro e w1 ⟨a, k, rfl, hr, hu⟩; have HR := hid hr; have HU := hid hu; clear hr hu)
    go_wp2_with fail
    go_ret
    exact ⟨a, k, rfl, HR.out, HU.out⟩
end Go.Proofs.Ytmdhhembkmkfdaa.Sh
