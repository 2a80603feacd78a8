/- The walks of slices.Concat of two rows of integers, and of shrink's own without. -/
import Derived.Test.YtnikkakeiajmgaaSa
namespace Go.Proofs.Ytnikkakeiajmgaa.Sh
open Go Go.RowKit Go.Proofs.Ytnikkakeiajmgaa Go.Proofs.Ytnikkakeiajmgaa.K Go.Proofs.Ytnikkakeiajmgaa.M Go.Proofs.Ytnikkakeiajmgaa.O Go.Proofs.Ytnikkakeiajmgaa.R Go.Proofs.Ytnikkakeiajmgaa.So Go.Proofs.Ytnikkakeiajmgaa.Pa

set_option maxHeartbeats 4000000 in
set_option maxRecDepth 100000 in
theorem concat_any (x y : Addr) (n m c d : Nat) (xs ys : List Int) (w : World) (g : Nat) (hg0 : w.cell? ⟨g, 0, none⟩ = some (.slice (some x) n c)) (hg1 : w.cell? ⟨g, 1, none⟩ = some (.slice (some y) m d)) (hx : LR w (some x) n c xs) (hy : LR w (some y) m d ys) (hn : n + m ≤ 200) :
    Calls Try.prog 50 #[.slice (some ⟨g, 0, none⟩) 2 2] w fun e w' => ∃ a k, e = .returned (.slice a (n + m) k) ∧ LR w' a (n + m) k (xs ++ ys) ∧ Upd [] w w' := by
  obtain ⟨i0, hi, hz0, hz1, hz2⟩ := info_parts info3
  have HI := hid hi
  have H0 := hid hz0
  have H1 := hid hz1
  have H2 := hid hz2
  have HX := hid hx
  have HY := hid hy
  have HG0 := hid hg0
  have HG1 := hid hg1
  clear hi hz0 hz1 hz2 hx hy
  go_enter Try.func50, Try.ntmps50
  go_wp2_with fail
  go_loopg [3, 11] 2 (fun dd v3 v11 wr => ∃ (j s : Nat), v3 = .int .i64 (s : Int) ∧ v11 = .int .i64 (j : Int) ∧ Hid (j + dd = 2) ∧ Hid ((j = 0 ∧ s = 0) ∨ (j = 1 ∧ s = n) ∨ (j = 2 ∧ s = n + m)) ∧ Hid (wr = w))
  case atStart => exact ⟨0, 0, rfl, rfl, rfl, .inl ⟨rfl, rfl⟩, rfl⟩
  case round =>
    obtain ⟨j, s, rfl, rfl, Hj, Hs, Hw⟩ := hrel
    obtain rfl := Hw.out
    rcases Hs.out with ⟨rfl, rfl⟩ | ⟨rfl, rfl⟩ | ⟨rfl, rfl⟩
    · go_wp2_with fail
      go_roundg 1
      case measure => have := Hj.out; omega
      case rel => exact ⟨1, n, by go_num, rfl, rfl, .inr (.inl ⟨rfl, rfl⟩), rfl⟩
    · go_wp2_with fail
      go_roundg 0
      case measure => have := Hj.out; omega
      case rel => exact ⟨2, s + m, by go_num, rfl, rfl, .inr (.inr ⟨rfl, rfl⟩), rfl⟩
    · clear Hs Hw Hj
      go_wp2_with fail
      rw [show (n : Int) + (m : Int) = ((n + m : Nat) : Int) by omega]
      obtain ⟨B, hB⟩ : ∃ B, B = wr.heap.size := ⟨_, rfl⟩
      have HB := hid hB
      refine (grow_all (n + m) wr hn).mono ?_
      rintro e w1 ⟨v1, rfl, ho, hu⟩
      rw [← hB] at ho
      have HO1 := hid ho
      have HU1 := hid hu
      clear ho hu hB
      go_wp2_with fail
      go_loopg [6, 27] 2 (fun dd v6 v27 wq => ∃ (j s : Nat) (l : List Int), v27 = .int .i64 (j : Int) ∧ Hid (j + dd = 2) ∧ Hid ((j = 0 ∧ s = 0 ∧ l = []) ∨ (j = 1 ∧ s = n ∧ l = xs) ∨ (j = 2 ∧ s = n + m ∧ l = xs ++ ys)) ∧ Hid (wq.ownsRow B 3 1 v6 s (ints l)) ∧ Hid (Upd [] wr wq))
      case atStart => exact ⟨0, 0, [], rfl, rfl, .inl ⟨rfl, rfl, rfl⟩, HO1.out, HU1.out⟩
      case round =>
        clear HO1 HU1
        obtain ⟨j, s, l, rfl, Hj, Hs, HO, HU⟩ := hrel
        have hg0 := HU.out.cell HG0.out (by simp)
        have hg1 := HU.out.cell HG1.out (by simp)
        have XL := hid HX.out.2.1
        have XC := hid (HX.out.upd HU.out).cells
        have YL := hid HY.out.2.1
        have YC := hid (HY.out.upd HU.out).cells
        rcases Hs.out with ⟨rfl, rfl, rfl⟩ | ⟨rfl, rfl, rfl⟩ | ⟨rfl, rfl, rfl⟩
        · go_wp2_with (at_builtin; refine wpList_append_own_at _ rfl _ _ 22 rfl B 3 i0 (.int .i64 0) 1 8 Try.underlying22 HI.out H0.out H1.out H2.out rfl (by decide) u6 0 (ints []) rfl HO.out x n c (ints xs) rfl (by rw [ints_length, XL.out]; omega) (fun j u hj => XC.out j u hj) (ints_one xs) (by unfold maxLen; omega) (by omega) (by rw [HB.out]; exact HU.out.size) ?_; intro v' w2 hown hgrow _ _; have HO2 := hid hown; have HG2 := hid hgrow; clear hown hgrow)
          go_wp2_with fail
          go_roundg 1
          case measure => have := Hj.out; omega
          case rel => exact ⟨1, n, xs, by go_num, rfl, .inr (.inl ⟨rfl, rfl, rfl⟩), by have := HO2.out; show World.ownsRow _ _ _ _ _ _ _; simpa [ints] using this, HU.out.grown HG2.out (fun k hk => .inr (by rw [← HB.out]; exact own_ge HO.out k hk))⟩
        · go_wp2_with (at_builtin; refine wpList_append_own_at _ rfl _ _ 22 rfl B 3 i0 (.int .i64 0) 1 8 Try.underlying22 HI.out H0.out H1.out H2.out rfl (by decide) u6 s (ints l) rfl HO.out y m d (ints ys) rfl (by rw [ints_length, YL.out]; omega) (fun j u hj => YC.out j u hj) (ints_one ys) (by unfold maxLen; omega) (by omega) (by rw [HB.out]; exact HU.out.size) ?_; intro v' w2 hown hgrow _ _; have HO2 := hid hown; have HG2 := hid hgrow; clear hown hgrow)
          go_wp2_with fail
          go_roundg 0
          case measure => have := Hj.out; omega
          case rel => exact ⟨2, s + m, l ++ ys, by go_num, rfl, .inr (.inr ⟨rfl, rfl, rfl⟩), by have := HO2.out; show World.ownsRow _ _ _ _ _ _ _; simpa [ints] using this, HU.out.grown HG2.out (fun k hk => .inr (by rw [← HB.out]; exact own_ge HO.out k hk))⟩
        · go_wp2_with fail
          go_ret
          obtain ⟨a, k, rfl, hr⟩ := LR.of_own HO.out
          exact ⟨a, k, rfl, hr, HU.out⟩

theorem concat_at (x y : Addr) (n m c d : Nat) (xs ys : List Int) (w : World) (hx : LR w (some x) n c xs) (hy : LR w (some y) m d ys) (hn : n + m ≤ 200) :
    Calls Try.prog 50 #[.slice (some ⟨w.heap.size, 0, none⟩) 2 2] (w.alloc (.cells #[.slice (some x) n c, .slice (some y) m d] 22)).drew fun e w' => ∃ a k, e = .returned (.slice a (n + m) k) ∧ LR w' a (n + m) k (xs ++ ys) ∧ Upd [] w w' := by
  have hu : Upd [] w (w.alloc (.cells #[.slice (some x) n c, .slice (some y) m d] 22)).drew := ((Upd.refl _ _).alloc _).drew
  have hb := blk_new w (.cells #[.slice (some x) n c, .slice (some y) m d] 22)
  exact (concat_any x y n m c d xs ys (w.alloc (.cells #[.slice (some x) n c, .slice (some y) m d] 22)).drew w.heap.size ((blk_cell hb 0).trans rfl) ((blk_cell hb 1).trans rfl) (hx.upd hu) (hy.upd hu) hn).mono
    fun e w' ⟨a, k, he, h, u⟩ => ⟨a, k, he, h, hu.trans u (by simp)⟩
theorem LR.take {w : World} {a : Option Addr} {n c f : Nat} {xs : List Int} (h : LR w a n c xs) (hf : f ≤ n) : LR w a f c (xs.take f) := by
  obtain ⟨h1, h2, h3, h4⟩ := h
  exact ⟨h1.take f, by simp; omega, by omega, h4⟩
theorem add_add (x : Addr) (i j : Nat) : (x.add i).add j = x.add (i + j) := by
  unfold Addr.add
  split <;> split <;> (try split) <;> simp_all <;> omega
theorem LR.drop {w : World} {x : Addr} {n c t : Nat} {xs : List Int} (h : LR w (some x) n c xs) (ht : t ≤ n) : LR w (some (x.add t)) (n - t) (c - t) (xs.drop t) := by
  obtain ⟨h1, h2, h3, h4⟩ := h
  refine ⟨fun i hi => ?_, by simp; omega, by omega, by omega⟩
  have hi' : t + i < xs.length := by simp at hi; omega
  obtain ⟨y, e, hc⟩ := h1 (t + i) hi'
  cases e
  refine ⟨_, rfl, ?_⟩
  rw [add_add, hc]
  simp [List.getD_eq_getElem?_getD]
theorem LR.zero {w : World} (a : Option Addr) : LR w a 0 0 [] := ⟨fun i hi => by simp at hi, rfl, by omega, by omega⟩

set_option maxHeartbeats 4000000 in
set_option maxRecDepth 100000 in
theorem without_any (x : Addr) (n c f t : Nat) (xs : List Int) (w : World) (h : LR w (some x) n c xs) (hft : f ≤ t) (ht : t ≤ n) (hn : n ≤ 200) :
    Calls Try.prog 44 #[.slice (some x) n c, .int .i64 (f : Int), .int .i64 (t : Int)] w fun e w' => ∃ a k, e = .returned (.slice a (f + (n - t)) k) ∧ LR w' a (f + (n - t)) k (xs.take f ++ xs.drop t) ∧ Upd [] w w' := by
  have HH := hid h
  have hnc : n ≤ c ∧ c ≤ 9223372036854775807 := by obtain ⟨_, _, h1, h2⟩ := h; exact ⟨h1, h2⟩
  obtain ⟨hnc, hc⟩ := hnc
  clear h
  have hfc : f ≤ c := by omega
  have htc : t ≤ c := by omega
  by_cases hct : c = t
  · subst hct
    obtain rfl : n = c := by omega
    go_enter Try.func44, Try.ntmps44
    go_wp2_with fail
    go_region_with (go_at_call 50; refine (concat_at x x f 0 n 0 (xs.take f) [] w (HH.out.take hft) (LR.zero _) (by omega)).mono ?_; rintro e w1 ⟨a, k, rfl, hr, hu⟩; have HR := hid hr; have HU := hid hu; clear hr hu)
    go_wp2_with fail
    go_ret
    have e : f + (n - n) = f + 0 := by omega
    have e2 : xs.drop n = [] := List.drop_of_length_le (by rw [HH.out.2.1]; exact Nat.le_refl _)
    refine ⟨a, k, ?_, by rw [e, e2]; exact HR.out, HU.out⟩
    rw [e]; rfl
  · go_enter Try.func44, Try.ntmps44
    go_wp2_with fail
    go_region_with (go_at_call 50; refine (concat_at x (x.add t) f (n - t) c (c - t) (xs.take f) (xs.drop t) w (HH.out.take (by omega)) (HH.out.drop ht) (by omega)).mono ?_; rintro e w1 ⟨a, k, rfl, hr, hu⟩; have HR := hid hr; have HU := hid hu; clear hr hu)
    go_wp2_with fail
    go_ret
    exact ⟨a, k, rfl, HR.out, HU.out⟩

end Go.Proofs.Ytnikkakeiajmgaa.Sh
