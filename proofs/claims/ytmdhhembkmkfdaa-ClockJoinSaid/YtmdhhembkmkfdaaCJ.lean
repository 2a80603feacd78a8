/- The walk of the statement ClockJoin: a join is the least of all that are no less than both. -/
import Derived.Test.YtmdhhembkmkfdaaEQ
namespace Go.Proofs.Ytmdhhembkmkfdaa.CJ
open Go Go.RowKit Go.Proofs.Ytmdhhembkmkfdaa.K Go.Proofs.Ytmdhhembkmkfdaa.O Go.Proofs.Ytmdhhembkmkfdaa.CL Go.Proofs.Ytmdhhembkmkfdaa.EQ

/-! Plain -/
theorem atL_join_all (a b : List Int) (i : Nat) : atL (joinL a b) i = max (atL a i) (atL b i) := by
  by_cases h : i < max a.length b.length
  · exact atL_join a b i h
  · rw [atL_out (joinL a b) i (by rw [joinL_length]; omega), atL_out a i (by omega), atL_out b i (by omega)]; rfl
def alikeL (a b : List Int) : Bool := (List.range (max a.length b.length)).all (fun i => decide (atL a i = atL b i))
theorem alikeL_iff (a b : List Int) : alikeL a b = true ↔ ∀ i, atL a i = atL b i := by
  unfold alikeL
  rw [List.all_eq_true]
  constructor
  · intro h i
    by_cases hi : i < max a.length b.length
    · simpa using h i (List.mem_range.2 hi)
    · rw [atL_out a i (by omega), atL_out b i (by omega)]
  · intro h i _; simpa using h i
def lowL (l : List Int) : List Int := l.map (fun x => max x 0)
theorem atL_low (l : List Int) (i : Nat) : atL (lowL l) i = max (atL l i) 0 := by
  simp only [atL, lowL, List.getD_eq_getElem?_getD, List.getElem?_map]
  cases l[i]? <;> simp
def belowL (x y : List Int) : Bool := lessL x y || (!lessL y x && alikeL x y)
theorem belowL_iff (x y : List Int) : belowL x y = true ↔ ∀ i, atL x i ≤ atL y i := by
  unfold belowL
  rw [Bool.or_eq_true, Bool.and_eq_true, lessL_iff, alikeL_iff]
  constructor
  · rintro (⟨h, _⟩ | ⟨_, h⟩) i
    · exact h i
    · rw [h i]; exact Int.le_refl _
  · intro h
    by_cases he : ∃ i, atL x i < atL y i
    · exact .inl ⟨h, he⟩
    · refine .inr ⟨?_, fun i => ?_⟩
      · rw [Bool.not_eq_true']
        refine Bool.eq_false_iff.2 (fun hl => ?_)
        obtain ⟨_, i, hi⟩ := (lessL_iff y x).1 hl
        have := h i; omega
      · have := h i
        have : ¬ atL x i < atL y i := fun q => he ⟨i, q⟩
        omega
theorem plain1 (a b : List Int) : belowL (lowL a) (joinL (lowL a) (lowL b)) = true := (belowL_iff _ _).2 fun i => by rw [atL_join_all]; omega
theorem plain2 (a b : List Int) : alikeL (joinL a b) (joinL b a) = true := (alikeL_iff _ _).2 fun i => by rw [atL_join_all, atL_join_all]; omega
theorem plain3 (a b c : List Int) (h1 : belowL a c = true) (h2 : belowL b c = true) : belowL (joinL a b) c = true := (belowL_iff _ _).2 fun i => by
  rw [atL_join_all]; have := (belowL_iff _ _).1 h1 i; have := (belowL_iff _ _).1 h2 i; omega
theorem plain4 (a b c : List Int) : alikeL (joinL (joinL a b) c) (joinL a (joinL b c)) = true := (alikeL_iff _ _).2 fun i => by simp only [atL_join_all]; omega

/-! Walks -/
set_option maxHeartbeats 4000000 in
set_option maxRecDepth 100000 in
theorem alike_any (a : Option Addr) (n c : Nat) (xs : List Int) (b : Option Addr) (m d : Nat) (ys : List Int) (w : World) (hx : IntRow w a xs) (hxl : xs.length = n) (hy : IntRow w b ys) (hyl : ys.length = m) (hn : n ≤ 9223372036854775806) (hm : m ≤ 9223372036854775806) :
    Calls Try.prog 19 #[.slice a n c, .slice b m d] w fun e w' => e = .returned (.bool (alikeL xs ys)) ∧ w' = w := by
  have HX := hid hx
  have HXL := hid hxl
  have HY := hid hy
  have HYL := hid hyl
  clear hx hxl hy hyl
  obtain ⟨k, hk⟩ : ∃ k : Nat, max (n : Int) (m : Int) = (k : Int) := ⟨max n m, by omega⟩
  have hmax := fun ats ty => max_nat ats ty .i64 .i64 (n : Int) (m : Int) k hk
  have hk1 : k ≤ 9223372036854775806 := by omega
  have HK : Hid (k = max n m) := by show _ = _; omega
  clear hk
  go_enter Try.func19, Try.ntmps19
  go_wp2_with fail
  go_loopg [13] k (fun dd v13 wr => ∃ (j : Nat), v13 = .int .i64 (j : Int) ∧ Hid (j + dd = k) ∧ Hid (∀ i, i < j → atL xs i = atL ys i) ∧ Hid (wr = w))
  case atStart => exact ⟨0, rfl, by show _ = _; omega, fun i hi => by omega, rfl⟩
  case round =>
    obtain ⟨j, rfl, Hj, Ha, Hw⟩ := hrel
    obtain rfl := Hw.out
    by_cases hj : j < k
    · obtain ⟨p, hp⟩ : ∃ p, p = atL xs j := ⟨_, rfl⟩
      obtain ⟨q, hq⟩ : ∃ q, q = atL ys j := ⟨_, rfl⟩
      have HP := hid hp
      have HQ := hid hq
      by_cases e : p = q
      · have step : ∀ i, i < j + 1 → atL xs i = atL ys i := fun i hi => by
          by_cases hij : i = j
          · subst hij; rw [← hp, ← hq, e]
          · exact Ha.out i (by omega)
        have ST := hid step
        clear step
        have hcs : (j < n ∧ j < m) ∨ (j < n ∧ ¬ j < m) ∨ (¬ j < n ∧ j < m) := by have := HK.out; omega
        rcases hcs with ⟨h1, h2⟩ | ⟨h1, h2⟩ | ⟨h1, h2⟩
        all_goals
          first
            | (have hx1 : xs.length ≤ j := by (rw [HXL.out]; omega)
               have p0 : p = 0 := by rw [hp, atL_out xs j hx1]
               obtain ⟨y, rfl, cy⟩ := HY.out j (by rw [HYL.out]; omega)
               rw [show ys.getD j 0 = q from hq.symm, ← e, p0] at cy
               clear hp hq e p0 hx1)
            | (have hy1 : ys.length ≤ j := by (rw [HYL.out]; omega)
               have q0 : q = 0 := by rw [hq, atL_out ys j hy1]
               obtain ⟨x, rfl, cx⟩ := HX.out j (by rw [HXL.out]; omega)
               rw [show xs.getD j 0 = p from hp.symm, e, q0] at cx
               clear hp hq e q0 hy1)
            | (obtain ⟨x, rfl, cx⟩ := HX.out j (by rw [HXL.out]; omega)
               obtain ⟨y, rfl, cy⟩ := HY.out j (by rw [HYL.out]; omega)
               rw [show xs.getD j 0 = p from hp.symm, e] at cx
               rw [show ys.getD j 0 = q from hq.symm] at cy
               clear hp hq e)
          go_wp2_with fail
          go_roundg (k - (j + 1))
          case measure => have := Hj.out; omega
          case rel => exact ⟨j + 1, by go_num, by show _ = _; omega, ST.out, rfl⟩
      · have hfin : alikeL xs ys = false := by
          refine Bool.eq_false_iff.2 (fun h => e ?_)
          rw [hp, hq]; exact (alikeL_iff xs ys).1 h j
        have hne : (p != q) = true := by rw [bne_iff_ne]; exact e
        have HF := hid hfin
        clear hfin
        have hcs : (j < n ∧ j < m) ∨ (j < n ∧ ¬ j < m) ∨ (¬ j < n ∧ j < m) := by have := HK.out; omega
        rcases hcs with ⟨h1, h2⟩ | ⟨h1, h2⟩ | ⟨h1, h2⟩
        all_goals
          first
            | (have hx1 : xs.length ≤ j := by (rw [HXL.out]; omega)
               have p0 : p = 0 := by rw [hp, atL_out xs j hx1]
               obtain ⟨y, rfl, cy⟩ := HY.out j (by rw [HYL.out]; omega)
               rw [show ys.getD j 0 = q from hq.symm] at cy
               rw [p0] at hne
               clear hp hq e p0 hx1)
            | (have hy1 : ys.length ≤ j := by (rw [HYL.out]; omega)
               have q0 : q = 0 := by rw [hq, atL_out ys j hy1]
               obtain ⟨x, rfl, cx⟩ := HX.out j (by rw [HXL.out]; omega)
               rw [show xs.getD j 0 = p from hp.symm] at cx
               rw [q0] at hne
               clear hp hq e q0 hy1)
            | (obtain ⟨x, rfl, cx⟩ := HX.out j (by rw [HXL.out]; omega)
               obtain ⟨y, rfl, cy⟩ := HY.out j (by rw [HYL.out]; omega)
               rw [show xs.getD j 0 = p from hp.symm] at cx
               rw [show ys.getD j 0 = q from hq.symm] at cy
               clear hp hq e)
          go_wp2_with fail
          go_ret
          exact ⟨ret_bool HF.out.symm, rfl⟩
    · go_wp2_with fail
      go_ret
      refine ⟨ret_bool ?_, rfl⟩
      have hjk : j = k := by have := Hj.out; omega
      refine ((alikeL_iff xs ys).2 (fun i => ?_)).symm
      by_cases hik : i < k
      · exact Ha.out i (by omega)
      · have := HK.out; have := HXL.out; have := HYL.out
        rw [atL_out xs i (by omega), atL_out ys i (by omega)]

set_option maxHeartbeats 4000000 in
set_option maxRecDepth 100000 in
theorem low_any (a : Option Addr) (n c : Nat) (xs : List Int) (w : World) (hx : IntRow w a xs) (hxl : xs.length = n) (hn : n * 8 ≤ 140737488351232) :
    Calls Try.prog 20 #[.slice a n c] w fun e w' => ∃ v, e = .returned v ∧ w'.ownsRow w.heap.size 3 1 v (lowL xs).length (ints (lowL xs)) ∧ Upd [] w w' := by
  obtain ⟨i0, hi, hz0, hz1, hz2⟩ := info_parts CL.info3
  have HX := hid hx
  have HXL := hid hxl
  have HI := hid hi
  have HA := hid hz0
  have HB := hid hz1
  have HC := hid hz2
  clear hx hxl hi hz0 hz1 hz2
  obtain ⟨B, hB⟩ : ∃ B, B = w.heap.size := ⟨_, rfl⟩
  have HBS := hid hB
  clear hB
  go_enter Try.func20, Try.ntmps20
  go_wp2_with fail
  go_loopg [3, 8] n (fun dd v3 v8 wr => ∃ (j : Nat), v8 = .int .i64 (j : Int) ∧ Hid (j + dd = n) ∧ Hid (wr.ownsRow B 3 1 v3 j (ints ((lowL xs).take j))) ∧ Hid (Upd [] w wr))
  case atStart => exact ⟨0, rfl, by show _ = _; omega, World.ownsRow_nil _ _ _ _, Upd.refl _ _⟩
  case round =>
    obtain ⟨j, rfl, Hj, Ho, Hu⟩ := hrel
    by_cases hj : j < n
    · obtain ⟨x, rfl, cx⟩ := HX.out.upd Hu.out j (by rw [HXL.out]; exact hj)
      obtain ⟨p, hp⟩ : ∃ p, p = xs.getD j 0 := ⟨_, rfl⟩
      rw [← hp] at cx
      have HP := hid hp
      clear hp
      obtain ⟨t, ht⟩ : ∃ t, t = max p 0 := ⟨_, rfl⟩
      have hmx : ∀ ats ty, Builtin.max_ ats ty #[.int .i64 p, .int .i64 0] = pure (.int .i64 t) := fun ats ty => by
        have e : (if p < 0 then 0 else p) = t := by rw [ht]; split <;> omega
        simp only [Builtin.max_, List.foldlM_cons, List.foldlM_nil, Builtin.max2, gt_iff_lt, e]; rfl
      have HT := hid ht
      clear ht
      go_wp2_with (first | (at_builtin; refine wpList_app (W := wr) rfl (.tmp 12) (.tmp 15) 22 rfl B 3 i0 _ 1 8 Try.underlying22 HI.out HA.out HB.out HC.out rfl (by decide) u3 j (ints ((lowL xs).take j)) rfl Ho.out [.int .i64 t] 3 rfl rfl (by intro u hu; simp at hu; subst hu; rfl) (by omega) (by omega) (by have := Hu.out.size; have := HBS.out; omega) ?_; intro v3' w2 ho2 hu2 hl2; have HO2 := hid ho2; have HU2 := hid hu2; clear ho2 hu2 hl2))
      go_roundg (n - (j + 1))
      case measure => have := Hj.out; omega
      case rel =>
        refine ⟨j + 1, by go_num, by show _ = _; omega, ?_, Hu.out.trans HU2.out (fun t ht => .inr (by rw [← HBS.out]; exact own_ge Ho.out t (by simpa using ht)))⟩
        have hjl : j < (lowL xs).length := by simp only [lowL, List.length_map]; rw [HXL.out]; exact hj
        have e : (lowL xs)[j] = t := by
          have hjx : j < xs.length := by rw [HXL.out]; exact hj
          rw [HT.out, HP.out]; simp [lowL, List.getD_eq_getElem?_getD, hjx]
        have := HO2.out
        rw [List.take_succ_eq_append_getElem hjl, e]
        show World.ownsRow _ _ _ _ _ _ _
        simpa [ints] using this
    · go_wp2_with fail
      go_ret
      have hjn : j = n := by have := Hj.out; omega
      subst hjn
      have hl : (lowL xs).length = j := by simp only [lowL, List.length_map]; exact HXL.out
      have := Ho.out
      rw [List.take_of_length_le (by omega)] at this
      exact ⟨_, rfl, by rw [hl, ← HBS.out]; exact this, Hu.out⟩

set_option maxHeartbeats 4000000 in
set_option maxRecDepth 100000 in
theorem below_any (a : Option Addr) (n c : Nat) (xs : List Int) (b : Option Addr) (m d : Nat) (ys : List Int) (w : World) (hx : IntRow w a xs) (hxl : xs.length = n) (hy : IntRow w b ys) (hyl : ys.length = m) (hn : n ≤ 9223372036854775806) (hm : m ≤ 9223372036854775806) :
    Calls Try.prog 18 #[.slice a n c, .slice b m d] w fun e w' => e = .returned (.bool (belowL xs ys)) ∧ w' = w := by
  have HX := hid hx
  have HXL := hid hxl
  have HY := hid hy
  have HYL := hid hyl
  clear hx hxl hy hyl
  have hfin : ∀ p q r : Bool, lessL xs ys = p → lessL ys xs = q → alikeL xs ys = r → belowL xs ys = (p || (!q && r)) := by rintro _ _ _ rfl rfl rfl; rfl
  cases h1 : lessL xs ys
  · cases h2 : lessL ys xs
    · have hf := hfin _ _ _ h1 h2 rfl
      rw [hf]
      have H1 := hid h1
      have H2 := hid h2
      clear h1 h2 hfin hf
      go_enter Try.func18, Try.ntmps18
      go_wp2_with fail
      refine (less_any _ _ _ xs _ _ _ ys _ HX.out HXL.out HY.out HYL.out hn hm).mono ?_
      rintro e w' ⟨rfl, rfl⟩
      rw [H1.out]
      go_wp2_with fail
      refine (less_any _ _ _ ys _ _ _ xs _ HY.out HYL.out HX.out HXL.out hm hn).mono ?_
      rintro e w' ⟨rfl, rfl⟩
      rw [H2.out]
      go_wp2_with fail
      refine (alike_any _ _ _ xs _ _ _ ys _ HX.out HXL.out HY.out HYL.out hn hm).mono ?_
      rintro e w' ⟨rfl, rfl⟩
      go_wp2_with fail
      go_ret
      exact ⟨by simp, rfl⟩
    · have hf := hfin _ _ _ h1 h2 rfl
      rw [hf]
      have H1 := hid h1
      have H2 := hid h2
      clear h1 h2 hfin hf
      go_enter Try.func18, Try.ntmps18
      go_wp2_with fail
      refine (less_any _ _ _ xs _ _ _ ys _ HX.out HXL.out HY.out HYL.out hn hm).mono ?_
      rintro e w' ⟨rfl, rfl⟩
      rw [H1.out]
      go_wp2_with fail
      refine (less_any _ _ _ ys _ _ _ xs _ HY.out HYL.out HX.out HXL.out hm hn).mono ?_
      rintro e w' ⟨rfl, rfl⟩
      rw [H2.out]
      go_wp2_with fail
      go_ret
      exact ⟨by simp, rfl⟩
  · have hf := hfin _ _ _ h1 rfl rfl
    rw [hf]
    have H1 := hid h1
    clear h1 hfin hf
    go_enter Try.func18, Try.ntmps18
    go_wp2_with fail
    refine (less_any _ _ _ xs _ _ _ ys _ HX.out HXL.out HY.out HYL.out hn hm).mono ?_
    rintro e w' ⟨rfl, rfl⟩
    rw [H1.out]
    go_wp2_with fail
    go_ret
    exact ⟨by simp, rfl⟩
end Go.Proofs.Ytmdhhembkmkfdaa.CJ
