/- The walks of clock.at, clock.Less and clock.Join, at whatever clocks. -/
import Derived.Test.YtcdladnbcamgjaaProg
import Derived.Test.YtcdladnbcamgjaaK
import Derived.Test.YtcdladnbcamgjaaO
import Derived.BigQuiet
import Derived.Deep.QuietTactic
import Derived.Deep.LoopGhost
import Derived.Deep.RegionWith
import Derived.BigRegion
import Derived.IntWalk
namespace Go.Proofs.Ytcdladnbcamgjaa.CL
open Go Go.RowKit Go.Proofs.Ytcdladnbcamgjaa.K Go.Proofs.Ytcdladnbcamgjaa.O

def ints (l : List Int) : List Value := l.map (Value.int .i64)
theorem ints_length (l : List Int) : (ints l).length = l.length := by simp [ints]
theorem ints_get (l : List Int) (i : Nat) (h : i < l.length) : (ints l)[i]? = some (.int .i64 (l.getD i 0)) := by simp [ints, List.getD_eq_getElem?_getD, h]

theorem intRow_of {w : World} {base : Nat} {v : Value} {l : List Int} (h : w.ownsRow base 3 1 v l.length (ints l)) : ∃ a cap, v = .slice a l.length cap ∧ l.length ≤ cap ∧ cap ≤ 9223372036854775807 ∧ IntRow w a l := by
  obtain ⟨a, cap, rfl, h1, h2, hc⟩ := own_view h
  refine ⟨a, cap, rfl, h1, h2, fun i hi => ?_⟩
  obtain ⟨g, rfl, _, c, _⟩ := hc i _ (ints_get l i hi)
  refine ⟨_, rfl, ?_⟩
  have e : (⟨g, 0, none⟩ : Addr).add i = ⟨g, i, none⟩ := by unfold Addr.add; split <;> simp_all
  rw [e]; exact c

def atL (l : List Int) (i : Nat) : Int := l.getD i 0
def lessL (a b : List Int) : Bool := (List.range (max a.length b.length)).all (fun i => decide (atL a i ≤ atL b i)) && (List.range (max a.length b.length)).any (fun i => decide (atL a i < atL b i))
def joinL (a b : List Int) : List Int := (List.range (max a.length b.length)).map (fun i => max (atL a i) (atL b i))

theorem atL_out (l : List Int) (i : Nat) (h : l.length ≤ i) : atL l i = 0 := by simp [atL, List.getD_eq_getElem?_getD, h]
theorem lessL_iff (a b : List Int) : lessL a b = true ↔ (∀ i, atL a i ≤ atL b i) ∧ ∃ i, atL a i < atL b i := by
  unfold lessL
  rw [Bool.and_eq_true, List.all_eq_true, List.any_eq_true]
  constructor
  · rintro ⟨h1, i, hi, h2⟩
    refine ⟨fun j => ?_, i, by simpa using h2⟩
    by_cases hj : j < max a.length b.length
    · simpa using h1 j (List.mem_range.2 hj)
    · rw [atL_out a j (by omega), atL_out b j (by omega)]; exact Int.le_refl _
  · rintro ⟨h1, i, h2⟩
    refine ⟨fun j _ => by simpa using h1 j, i, ?_, by simpa using h2⟩
    rw [List.mem_range]
    refine Nat.lt_of_not_le (fun hle => ?_)
    rw [atL_out a i (by omega), atL_out b i (by omega)] at h2
    omega
theorem joinL_length (a b : List Int) : (joinL a b).length = max a.length b.length := by simp [joinL]
theorem atL_join (a b : List Int) (i : Nat) (h : i < max a.length b.length) : atL (joinL a b) i = max (atL a i) (atL b i) := by
  simp only [joinL, atL, List.getD_eq_getElem?_getD, List.getElem?_map, List.getElem?_range h]; rfl

set_option maxHeartbeats 1000000 in
theorem at_any (a : Option Addr) (len cap : Nat) (xs : List Int) (i : Nat) (w : World) (hx : IntRow w a xs) (hl : xs.length = len) :
    Calls Try.prog 60 #[.slice a len cap, .int .i64 (i : Int)] w fun e w' => e = .returned (.int .i64 (atL xs i)) ∧ w' = w := by
  by_cases h : i < len
  · obtain ⟨x, rfl, hc⟩ := hx i (by omega)
    have h' : (i : Int) < (len : Int) := by omega
    obtain ⟨k, hk⟩ : ∃ k, k = xs.getD i 0 := ⟨_, rfl⟩
    rw [← hk] at hc
    have HK := hid hk
    clear hk hx hl
    go_enter Try.func60, Try.ntmps60
    go_wp2_with fail
    go_ret
    exact ⟨ret_int HK.out, rfl⟩
  · have h' : ¬ (i : Int) < (len : Int) := by omega
    have e : atL xs i = 0 := atL_out xs i (by omega)
    rw [e]
    clear e hx hl h
    go_enter Try.func60, Try.ntmps60
    go_wp2_with fail
    go_ret
    exact ⟨rfl, rfl⟩

set_option maxHeartbeats 4000000 in
set_option maxRecDepth 100000 in
theorem less_any (a : Option Addr) (n c : Nat) (xs : List Int) (b : Option Addr) (m d : Nat) (ys : List Int) (w : World) (hx : IntRow w a xs) (hxl : xs.length = n) (hy : IntRow w b ys) (hyl : ys.length = m) (hn : n ≤ 9223372036854775806) (hm : m ≤ 9223372036854775806) :
    Calls Try.prog 26 #[.slice a n c, .slice b m d] w fun e w' => e = .returned (.bool (lessL xs ys)) ∧ w' = w := by
  have HX := hid hx
  have HXL := hid hxl
  have HY := hid hy
  have HYL := hid hyl
  clear hx hxl hy hyl
  obtain ⟨k, hk⟩ : ∃ k : Nat, max (n : Int) (m : Int) = (k : Int) := ⟨max n m, by omega⟩
  have hmax := fun ats ty => max_nat ats ty .i64 .i64 (n : Int) (m : Int) k hk
  have hk1 : k ≤ 9223372036854775806 := by omega
  have HK : Hid (k = max n m) := by show _ = _; omega
  clear hk
  go_enter Try.func26, Try.ntmps26
  go_wp2_with fail
  go_loopg [5, 12] k (fun dd v5 v12 wr => ∃ (j : Nat) (lt : Bool), v5 = .bool lt ∧ v12 = .int .i64 (j : Int) ∧ Hid (j + dd = k) ∧ Hid (∀ i, i < j → atL xs i ≤ atL ys i) ∧ Hid (lt = true ↔ ∃ i, i < j ∧ atL xs i < atL ys i) ∧ Hid (wr = w))
  case atStart => exact ⟨0, false, rfl, rfl, by show _ = _; omega, fun i hi => by omega, ⟨fun h => by simp at h, fun ⟨i, hi, _⟩ => by omega⟩, rfl⟩
  case round =>
    obtain ⟨j, lt, rfl, rfl, Hj, Ha, Hl, Hw⟩ := hrel
    obtain rfl := Hw.out
    by_cases hj : j < k
    · obtain ⟨p, hp⟩ : ∃ p, p = atL xs j := ⟨_, rfl⟩
      obtain ⟨q, hq⟩ : ∃ q, q = atL ys j := ⟨_, rfl⟩
      have HP := hid hp
      have HQ := hid hq
      clear hp hq
      by_cases hpq : q < p
      · have t1 : decide (q < p) = true := by simp; exact hpq
        go_wp2_with fail
        refine (at_any _ _ _ xs j _ HX.out HXL.out).mono ?_
        rintro e w' ⟨rfl, rfl⟩
        rw [← HP.out]
        go_wp2_with fail
        refine (at_any _ _ _ ys j _ HY.out HYL.out).mono ?_
        rintro e w' ⟨rfl, rfl⟩
        rw [← HQ.out]
        go_wp2_with fail
        go_ret
        have hf : lessL xs ys = false := by
          refine Bool.eq_false_iff.2 (fun h => ?_)
          have := ((lessL_iff xs ys).1 h).1 j
          rw [← HP.out, ← HQ.out] at this; omega
        exact ⟨ret_bool hf.symm, rfl⟩
      · have t1 : decide (q < p) = false := by simp; omega
        cases lt with
        | true =>
          go_wp2_with fail
          refine (at_any _ _ _ xs j _ HX.out HXL.out).mono ?_
          rintro e w' ⟨rfl, rfl⟩
          rw [← HP.out]
          go_wp2_with fail
          refine (at_any _ _ _ ys j _ HY.out HYL.out).mono ?_
          rintro e w' ⟨rfl, rfl⟩
          rw [← HQ.out]
          go_wp2_with fail
          go_roundg (k - (j + 1))
          case measure => have := Hj.out; omega
          case rel =>
            refine ⟨j + 1, true, rfl, by go_num, by show _ = _; omega, fun i hi => ?_, ⟨fun _ => ?_, fun _ => rfl⟩, rfl⟩
            · by_cases e : i = j
              · subst e; rw [← HP.out, ← HQ.out]; omega
              · exact Ha.out i (by omega)
            · obtain ⟨i, hi, h⟩ := Hl.out.1 (by simp); exact ⟨i, by omega, h⟩
        | false =>
          go_wp2_with fail
          refine (at_any _ _ _ xs j _ HX.out HXL.out).mono ?_
          rintro e w' ⟨rfl, rfl⟩
          rw [← HP.out]
          go_wp2_with fail
          refine (at_any _ _ _ ys j _ HY.out HYL.out).mono ?_
          rintro e w' ⟨rfl, rfl⟩
          rw [← HQ.out]
          go_wp2_with fail
          refine (at_any _ _ _ xs j _ HX.out HXL.out).mono ?_
          rintro e w' ⟨rfl, rfl⟩
          rw [← HP.out]
          go_wp2_with fail
          refine (at_any _ _ _ ys j _ HY.out HYL.out).mono ?_
          rintro e w' ⟨rfl, rfl⟩
          rw [← HQ.out]
          go_wp2_with fail
          go_roundg (k - (j + 1))
          case measure => have := Hj.out; omega
          case rel =>
            refine ⟨j + 1, decide (p < q), rfl, by go_num, by show _ = _; omega, fun i hi => ?_, ⟨fun h => ⟨j, by omega, by rw [← HP.out, ← HQ.out]; simpa using h⟩, fun h => ?_⟩, rfl⟩
            · by_cases e : i = j
              · subst e; rw [← HP.out, ← HQ.out]; omega
              · exact Ha.out i (by omega)
            · obtain ⟨i, hi, h⟩ := h
              by_cases e : i = j
              · subst e; rw [← HP.out, ← HQ.out] at h; simpa using h
              · exact absurd (Hl.out.2 ⟨i, by omega, h⟩) (by simp)
    · go_wp2_with fail
      go_ret
      refine ⟨ret_bool ?_, rfl⟩
      have hjk : j = k := by have := Hj.out; omega
      rw [Bool.eq_iff_iff, Hl.out, lessL_iff, hjk]
      constructor
      · rintro ⟨i, hi, h⟩
        refine ⟨fun i => ?_, i, h⟩
        by_cases hik : i < k
        · exact Ha.out i (by omega)
        · have := HK.out; have := HXL.out; have := HYL.out
          rw [atL_out xs i (by omega), atL_out ys i (by omega)]; exact Int.le_refl _
      · rintro ⟨_, i, h⟩
        refine ⟨i, Nat.lt_of_not_le (fun hle => ?_), h⟩
        have := HK.out; have := HXL.out; have := HYL.out
        rw [atL_out xs i (by omega), atL_out ys i (by omega)] at h
        omega

theorem info3 : (Try.prog.info? 3).map (fun i => (i.zero, i.size, i.bytes)) = some (some (.int .i64 0), 1, 8) := by kernel_rfl

set_option maxHeartbeats 4000000 in
set_option maxRecDepth 100000 in
theorem join_any (a : Option Addr) (n c : Nat) (xs : List Int) (b : Option Addr) (m d : Nat) (ys : List Int) (w : World) (hx : IntRow w a xs) (hxl : xs.length = n) (hy : IntRow w b ys) (hyl : ys.length = m) (hn : n ≤ 17592186044416) (hm : m ≤ 17592186044416) :
    Calls Try.prog 59 #[.slice a n c, .slice b m d] w fun e w' => ∃ v, e = .returned v ∧ w'.ownsRow w.heap.size 3 1 v (joinL xs ys).length (ints (joinL xs ys)) ∧ Upd [] w w' := by
  obtain ⟨i0, hi, hz0, hz1, hz2⟩ := info_parts info3
  have HX := hid hx
  have HXL := hid hxl
  have HY := hid hy
  have HYL := hid hyl
  clear hx hxl hy hyl
  obtain ⟨k, hk⟩ : ∃ k : Nat, max (n : Int) (m : Int) = (k : Int) := ⟨max n m, by omega⟩
  have hmax := fun ats ty => max_nat ats ty .i64 .i64 (n : Int) (m : Int) k hk
  have hk1 : k ≤ 17592186044416 := by omega
  have HK : Hid (k = max n m) := by show _ = _; omega
  clear hk
  have hmk : ∀ w, (Instr.makeSlice 22 (.int .i64 (k : Int)) (.int .i64 (k : Int))).run Try.prog w = .ok (.slice (some ⟨w.heap.size, 0, none⟩) k k) (w.alloc (.cells (ints (List.replicate k 0)).toArray 3)) := fun w => by
    have := run_make (P := Try.prog) w 22 3 i0 _ Try.underlying22 hi hz0 .i64 .i64 (k : Int) (k : Int) (by omega) (by omega) (by rw [hz2]; omega) (by omega)
    rw [this, Int.toNat_natCast, hz1, Nat.mul_one]
    have e : madeCells (Value.int .i64 0).cells k = (ints (List.replicate k 0)).toArray := by
      apply Array.ext'
      rw [show (Value.int .i64 0).cells = #[.int .i64 0] from rfl, toList_madeCells_one]
      simp [ints]
    rw [e]
  clear hi hz0 hz1 hz2
  go_enter Try.func59, Try.ntmps59
  go_wp2_with fail
  obtain ⟨B, hB⟩ : ∃ B, B = w.heap.size := ⟨_, rfl⟩
  have HB := hid hB
  have hown : (w.alloc (.cells (ints (List.replicate k 0)).toArray 3)).ownsRow B 3 1 (.slice (some ⟨B, 0, none⟩) k k) k (ints (List.replicate k 0)) := by
    rw [hB]
    exact ⟨by simp [ints], .inr ⟨w.heap.size, k, (ints (List.replicate k 0)).toArray, rfl, Nat.le_refl _, blk_new w _, Nat.le_refl _, by unfold maxLen; omega, by simp [ints], by simp [ints]⟩⟩
  rw [← hB]
  have HO := hid hown
  clear hown hB hmk
  go_loopg [15] k (fun dd v15 wr => ∃ (j : Nat), v15 = .int .i64 (j : Int) ∧ Hid (j + dd = k) ∧ Hid (wr.ownsRow B 3 1 (.slice (some ⟨B, 0, none⟩) k k) k (ints ((joinL xs ys).take j ++ List.replicate (k - j) 0))) ∧ Hid (Upd [] w wr))
  case atStart => exact ⟨0, rfl, by show _ = _; omega, by show World.ownsRow _ _ _ _ _ _ _; simpa using HO.out, (Upd.refl [] w).alloc _⟩
  case round =>
    obtain ⟨j, rfl, Hj, Ho, Hu⟩ := hrel
    by_cases hj : j < k
    · obtain ⟨p, hp⟩ : ∃ p, p = atL xs j := ⟨_, rfl⟩
      obtain ⟨q, hq⟩ : ∃ q, q = atL ys j := ⟨_, rfl⟩
      have HP := hid hp
      have HQ := hid hq
      clear hp hq
      have hjl : ((joinL xs ys).take j).length = j := by have := HK.out; have := HXL.out; have := HYL.out; rw [List.length_take, joinL_length]; omega
      have hlen : ((joinL xs ys).take j ++ List.replicate (k - j) (0 : Int)).length = k := by rw [List.length_append, hjl, List.length_replicate]; omega
      obtain ⟨a', cap', hv, _, _, hc⟩ := own_view Ho.out
      simp only [Value.slice.injEq, true_and] at hv
      obtain ⟨rfl, -⟩ := hv
      obtain ⟨g, hg, _, c1, f1⟩ := hc j _ (ints_get _ j (by rw [hlen]; exact hj))
      cases hg
      have f1 := f1 j
      obtain ⟨z, hz⟩ : ∃ z, z = ((joinL xs ys).take j ++ List.replicate (k - j) (0 : Int)).getD j 0 := ⟨_, rfl⟩
      rw [← hz] at c1
      clear hz hc
      obtain ⟨t, ht⟩ : ∃ t, t = max p q := ⟨_, rfl⟩
      have hmx : ∀ ats ty, Builtin.max_ ats ty #[.int .i64 p, .int .i64 q] = pure (.int .i64 t) := fun ats ty => by
        have e : (if p < q then q else p) = t := by rw [ht]; split <;> omega
        simp only [Builtin.max_, List.foldlM_cons, List.foldlM_nil, Builtin.max2, gt_iff_lt, e]; rfl
      have HT := hid ht
      have HJL := hid hjl
      have HLEN := hid hlen
      clear ht hjl hlen
      go_wp2_with fail
      refine (at_any _ _ _ xs j _ (HX.out.upd Hu.out) HXL.out).mono ?_
      rintro e w' ⟨rfl, rfl⟩
      rw [← HP.out]
      go_wp2_with fail
      refine (at_any _ _ _ ys j _ (HY.out.upd Hu.out) HYL.out).mono ?_
      rintro e w' ⟨rfl, rfl⟩
      rw [← HQ.out]
      go_wp2_with fail
      go_roundg (k - (j + 1))
      case measure => have := Hj.out; omega
      case rel =>
        refine ⟨j + 1, by go_num, by show _ = _; omega, ?_, Hu.out.setCell (.inr (by rw [← HB.out]; exact Nat.le_refl _)) _⟩
        have h1 := row_set Ho.out (i := j) (by rw [ints_length, HLEN.out]; exact hj) (.int .i64 t)
        have e1 : (ints ((joinL xs ys).take j ++ List.replicate (k - j) 0)).set j (.int .i64 t) = ints ((joinL xs ys).take (j + 1) ++ List.replicate (k - (j + 1)) 0) := by
          have hjj : j < (joinL xs ys).length := by have := HK.out; have := HXL.out; have := HYL.out; rw [joinL_length]; omega
          have ej : (joinL xs ys)[j] = t := by
            have := atL_join xs ys j (by have := HK.out; have := HXL.out; have := HYL.out; omega)
            rw [HT.out, HP.out, HQ.out, ← this]
            simp [atL, List.getD_eq_getElem?_getD, hjj]
          rw [List.take_succ_eq_append_getElem hjj, ej]
          unfold ints
          rw [← List.map_set]
          congr 1
          rw [List.set_append_right _ _ (by rw [HJL.out]; exact Nat.le_refl _), HJL.out, Nat.sub_self, show k - j = (k - (j + 1)) + 1 by omega, List.replicate_succ, List.set_cons_zero, List.append_assoc]
          rfl
        rw [e1] at h1
        exact h1
    · go_wp2_with fail
      go_ret
      have hjk : j = k := by have := Hj.out; omega
      subst hjk
      have hl : (joinL xs ys).length = j := by have := HK.out; have := HXL.out; have := HYL.out; rw [joinL_length]; omega
      have := Ho.out
      rw [Nat.sub_self, List.replicate_zero, List.append_nil, List.take_of_length_le (by omega)] at this
      exact ⟨_, rfl, by rw [hl, ← HB.out]; exact this, Hu.out⟩
end Go.Proofs.Ytcdladnbcamgjaa.CL
