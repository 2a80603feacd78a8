/- The walks of slices.IndexFunc and slices.DeleteFunc at []int, where what is asked is whether a number is a certain one. -/
import Derived.Test.YtcdladnbcamgjaaHa
import Derived.Lib.SliceRun
namespace Go.Proofs.Ytcdladnbcamgjaa.Df
open Go Go.RowKit Go.Proofs.Ytcdladnbcamgjaa.K Go.Proofs.Ytcdladnbcamgjaa.M Go.Proofs.Ytcdladnbcamgjaa.Ev Go.Proofs.Ytcdladnbcamgjaa.O Go.Proofs.Ytcdladnbcamgjaa.CL Go.Proofs.Ytcdladnbcamgjaa.CW Go.Proofs.Ytcdladnbcamgjaa.Cu

/-- A function value that asks whether a number is m, which lies in the third cell of block E. -/
def Asks (F E : Nat) (m : Int) : Prop := ∀ (w1 : World) (x : Int), w1.cell? ⟨E, 2, none⟩ = some (.int .i64 m) → Calls Try.prog F #[.int .i64 x, .pointer (some ⟨E, 0, none⟩)] w1 fun e w' => e = .returned (.bool (x == m)) ∧ w' = w1

set_option maxHeartbeats 2000000 in
theorem asks42 (E : Nat) (m : Int) : Asks 42 E m := fun w1 x hc => by
  go_enter Try.func42, Try.ntmps42
  go_wp2_with fail
  go_ret
  exact ⟨rfl, rfl⟩
set_option maxHeartbeats 2000000 in
theorem asks68 (E : Nat) (m : Int) : Asks 68 E m := fun w1 x hc => by
  go_enter Try.func68, Try.ntmps68
  go_wp2_with fail
  go_ret
  exact ⟨rfl, rfl⟩

theorem filter_none {xs : List Int} {m : Int} (h : ∀ x ∈ xs, x ≠ m) : xs.filter (fun x => x != m) = xs := by
  rw [List.filter_eq_self]; intro x hx; rw [bne_iff_ne]; exact h x hx
theorem take_succ_i (xs : List Int) (j : Nat) (h : j < xs.length) : xs.take (j + 1) = xs.take j ++ [xs.getD j 0] := by
  rw [List.take_succ_eq_append_getElem h]; simp [List.getD_eq_getElem?_getD, h]
theorem filter_front {xs : List Int} {m : Int} {k : Nat} (hk : k < xs.length) (h1 : xs.getD k 0 = m) (h2 : ∀ j, j < k → xs.getD j 0 ≠ m) : (xs.take (k + 1)).filter (fun x => x != m) = xs.take k := by
  rw [take_succ_i xs k hk, List.filter_append, h1]
  have e : [m].filter (fun x => x != m) = [] := by simp
  rw [e, List.append_nil]
  refine filter_none (fun x hx => ?_)
  obtain ⟨j, hj, e⟩ := List.getElem_of_mem hx
  have hj' : j < k ∧ j < xs.length := by simp at hj; omega
  have := h2 j hj'.1
  rw [← e]
  simpa [List.getD_eq_getElem?_getD, hj'.2] using this

set_option maxHeartbeats 4000000 in
set_option maxRecDepth 100000 in
theorem index_42 (E : Nat) (m : Int) (a : Option Addr) (n cap : Nat) (xs : List Int) (w : World) (hf : Asks 42 E m) (he : w.cell? ⟨E, 2, none⟩ = some (.int .i64 m)) (hx : IntRow w a xs) (hl : xs.length = n) (hn : n ≤ 1000000) :
    Calls Try.prog 65 #[.slice a n cap, .func (.func 42) #[] #[.pointer (some ⟨E, 0, none⟩)]] w fun e w' => w' = w ∧
      ((e = .returned (.int .i64 (-1)) ∧ ∀ x ∈ xs, x ≠ m) ∨ ∃ k : Nat, k < n ∧ e = .returned (.int .i64 (k : Int)) ∧ xs.getD k 0 = m ∧ ∀ j, j < k → xs.getD j 0 ≠ m) := by
  have HF := hid hf
  have HE := hid he
  have HX := hid hx
  have HL := hid hl
  clear hf he hx hl
  go_enter Try.func65, Try.ntmps65
  go_wp2_with fail
  go_loopg [8] n (fun d v8 wr => ∃ (i : Nat), v8 = .int .i64 (i : Int) ∧ i ≤ n ∧ Hid (i + d = n) ∧ Hid (∀ j, j < i → xs.getD j 0 ≠ m) ∧ Hid (wr = w))
  case atStart => exact ⟨0, rfl, by omega, by show _ = _; omega, hid (fun j hj => absurd hj (Nat.not_lt_zero j)), rfl⟩
  case round =>
    obtain ⟨i, rfl, hin, Hi, Hno, Hw⟩ := hrel
    obtain rfl := Hw.out
    by_cases hi : i < n
    · obtain ⟨x, rfl, cx⟩ := HX.out i (by rw [HL.out]; exact hi)
      obtain ⟨y, hy⟩ : ∃ y, y = xs.getD i 0 := ⟨_, rfl⟩
      rw [← hy] at cx
      have hi' : (i : Int) < (n : Int) := by omega
      have HY := hid hy
      clear hy
      by_cases hym : y = m
      · have b : (y == m) = true := by rw [beq_iff_eq]; exact hym
        have HYM := hid hym
        clear hym
        go_wp2_with fail
        refine (HF.out wr y HE.out).mono ?_
        rintro e w' ⟨rfl, rfl⟩
        go_wp2_with fail
        go_ret
        exact ⟨rfl, .inr ⟨i, hi, rfl, by rw [← HY.out]; exact HYM.out, Hno.out⟩⟩
      · have b : (y == m) = false := by rw [beq_eq_false_iff_ne]; exact hym
        have HYM := hid hym
        clear hym
        go_wp2_with fail
        refine (HF.out wr y HE.out).mono ?_
        rintro e w' ⟨rfl, rfl⟩
        go_wp2_with fail
        go_roundg (n - (i + 1))
        case measure => have := Hi.out; omega
        case rel =>
          refine ⟨i + 1, by go_num, by omega, by show _ = _; omega, hid (fun j hj => ?_), rfl⟩
          by_cases e : j = i
          · subst e; rw [← HY.out]; exact HYM.out
          · exact Hno.out j (by omega)
    · obtain rfl : i = n := by omega
      go_wp2_with fail
      go_ret
      refine ⟨rfl, .inl ⟨rfl, fun x hx => ?_⟩⟩
      obtain ⟨k, hk, e⟩ := List.getElem_of_mem hx
      have := Hno.out k (by rw [← HL.out]; exact hk)
      rw [← e]
      simpa [List.getD_eq_getElem?_getD, hk] using this

set_option maxHeartbeats 8000000 in
set_option maxRecDepth 100000 in
/-- 'slices.DeleteFunc(way, is m)': what is left is the list without m. -/
theorem deleteFunc_42 (E : Nat) (m : Int) (e0 e1 : Value) (B : Nat) (v : Value) (n : Nat) (xs : List Int) (w : World) (hf : Asks 42 E m) (he : w.heap[E]? = some (.cells #[e0, e1, .int .i64 m] 31 (0, 0))) (hv : w.ownsRow B 3 1 v n (ints xs)) (hn : n ≤ 1000) :
    Calls Try.prog 41 #[v, .func (.func 42) #[] #[.pointer (some ⟨E, 0, none⟩)]] w fun e w' => ∃ v', e = .returned v' ∧ w'.ownsRow B 3 1 v' (xs.filter (fun x => x != m)).length (ints (xs.filter (fun x => x != m))) ∧ (∀ k, v'.ownBlock = some k → v.ownBlock = some k) ∧ Upd v.ownBlock.toList w w' := by
  have hl : xs.length = n := by have := hv.1; rw [ints_length] at this; omega
  have e2 : w.cell? ⟨E, 2, none⟩ = some (.int .i64 m) := (blk_cell he 2).trans rfl
  obtain ⟨a, cap, rfl, h1, h2, hrow⟩ : ∃ a cap, v = .slice a n cap ∧ n ≤ cap ∧ cap ≤ 9223372036854775807 ∧ IntRow w a xs := by
    rw [← hl] at hv
    obtain ⟨a, cap, e, h⟩ := intRow_of hv
    exact ⟨a, cap, by rw [e, hl], by omega, h.2.1, h.2.2⟩
  have ind := index_42 E m a n cap xs w hf e2 hrow hl (by omega)
  have HF := hid hf
  have HE := hid he
  have HV := hid hv
  have HL := hid hl
  clear hf he hv hl hrow e2
  go_enter Try.func41, Try.ntmps41
  go_wp2_with fail
  refine ind.mono ?_
  rintro e w' ⟨rfl, ⟨rfl, hno⟩ | ⟨k, hk, rfl, hkm, hkno⟩⟩
  · have HNO := hid hno
    clear ind hno
    go_wp2_with fail
    go_ret
    refine ⟨_, rfl, ?_, fun k h => h, Upd.refl _ _⟩
    rw [filter_none HNO.out, HL.out]
    exact HV.out
  · have hlk : k < xs.length := by rw [HL.out]; exact hk
    have HKF := hid (filter_front hlk hkm hkno)
    have HKL := hid hlk
    clear ind hkm hkno hlk
    obtain ⟨g, cap', rfl, hgw, hgB, hcurE⟩ : ∃ g c', a = some ⟨g, 0, none⟩ ∧ g < w'.heap.size ∧ B ≤ g ∧ c' = cap := by
      obtain ⟨a', c', e, h1, h2, h3⟩ := own_view HV.out
      cases e
      obtain ⟨g, rfl, hb, hc, _⟩ := h3 0 _ (ints_get xs 0 (by have := HL.out; omega))
      exact ⟨g, _, rfl, World.block_lt_of_cell? w' _ hc, hb, rfl⟩
    clear hcurE
    have nb : (k : Int) ≠ -1 := by omega
    have nbb : ((k : Int) == -1) = false := by rw [beq_eq_false_iff_ne]; exact nb
    clear nb
    have neG : Hid (g ≠ E) := by
      show g ≠ E
      obtain ⟨cur, hg⟩ := own_block HV.out g rfl
      exact blk_ne hg HE.out (by decide)
    go_wp2_with fail
    go_loopg [5, 6] (n - (k + 1)) (fun d v5 v6 wr => ∃ (i j : Nat) (ys : List Int), v5 = .int .i64 (i : Int) ∧ v6 = .int .i64 (j : Int) ∧ i < j ∧ j ≤ n ∧ Hid (j + d = n) ∧ Hid (wr.ownsRow B 3 1 (.slice (some ⟨g, 0, none⟩) n cap) n (ints ys)) ∧ Hid (ys.take i = (xs.take j).filter (fun x => x != m)) ∧ Hid (ys.drop j = xs.drop j) ∧ Hid (ys.length = n) ∧ Hid (Upd [g] w' wr))
    case atStart =>
      refine ⟨k, k + 1, xs, rfl, by go_num, by omega, by omega, by show _ = _; omega, HV.out, HKF.out.symm, rfl, HL.out, Upd.refl _ _⟩
    case round =>
      obtain ⟨i, j, ys, rfl, rfl, hij, hjn, Hj, Hr, Ht, Hd, Hy, Hu⟩ := hrel
      have hcell : ∀ z, z < n → wr.cell? ⟨g, z, none⟩ = some (.int .i64 (ys.getD z 0)) ∧ wr.frozen? ⟨g, z, none⟩ = false := fun z hz => by
        obtain ⟨a', c', e, h1, h2, h3⟩ := own_view Hr.out
        cases e
        obtain ⟨g', e, hb, hc, hfz⟩ := h3 z _ (ints_get ys z (by rw [Hy.out]; exact hz))
        cases e
        exact ⟨hc, hfz z⟩
      have HC := hid hcell
      clear hcell
      by_cases hj : j < n
      · have hj' : (j : Int) < (n : Int) := by omega
        have hi' : (i : Int) < (n : Int) := by omega
        obtain ⟨y, hy⟩ : ∃ y, y = ys.getD j 0 := ⟨_, rfl⟩
        obtain ⟨x, hx⟩ : ∃ x, x = ys.getD i 0 := ⟨_, rfl⟩
        have q1 := (HC.out j hj).1
        have q2 := (HC.out i (by omega)).1
        have q3 := (HC.out i (by omega)).2
        rw [← hy] at q1
        rw [← hx] at q2
        have hyx : y = xs.getD j 0 := by
          have := congrArg (fun l : List Int => l.getD 0 0) Hd.out
          simp only [List.getD_eq_getElem?_getD, List.getElem?_drop, Nat.add_zero] at this
          rw [hy]; simpa [List.getD_eq_getElem?_getD] using this
        have ce := (Hu.out.blk HE.out (by simpa using Ne.symm neG.out))
        have CE : Hid (wr.cell? ⟨E, 2, none⟩ = some (.int .i64 m)) := (blk_cell ce 2).trans rfl
        have HYX := hid hyx
        clear hy hx hyx ce
        have hts : (xs.take (j + 1)).filter (fun x => x != m) = (xs.take j).filter (fun x => x != m) ++ [y].filter (fun x => x != m) := by
          rw [take_succ_i xs j (by rw [HL.out]; exact hj), List.filter_append, HYX.out]
        have HTS := hid hts
        clear hts
        by_cases hym : y = m
        · have b : (y == m) = true := by rw [beq_iff_eq]; exact hym
          have HYM := hid hym
          clear hym
          go_wp2_with fail
          refine (HF.out wr y CE.out).mono ?_
          rintro e w2 ⟨rfl, rfl⟩
          go_wp2_with fail
          go_roundg (n - (j + 1))
          case measure => have := Hj.out; omega
          case rel =>
            refine ⟨i, j + 1, ys, rfl, by go_num, by omega, by omega, by show _ = _; omega, Hr.out, ?_, ?_, Hy.out, Hu.out⟩
            · show _ = _
              rw [HTS.out, ← Ht.out, HYM.out]; simp
            · show _ = _
              rw [← List.drop_drop, ← List.drop_drop, Hd.out]
        · have b : (y == m) = false := by rw [beq_eq_false_iff_ne]; exact hym
          have HYM := hid hym
          clear hym
          go_wp2_with fail
          refine (HF.out wr y CE.out).mono ?_
          rintro e w2 ⟨rfl, rfl⟩
          go_wp2_with fail
          go_roundg (n - (j + 1))
          case measure => have := Hj.out; omega
          case rel =>
            have hs := row_set (i := i) Hr.out (by rw [ints_length, Hy.out]; omega) (.int .i64 y)
            rw [ints_set] at hs
            refine ⟨i + 1, j + 1, ys.set i y, by go_num, by go_num, by omega, by omega, by show _ = _; omega, hs, ?_, ?_, by show _ = _; rw [List.length_set]; exact Hy.out, Hu.out.setCell (.inl (by simp)) _⟩
            · show _ = _
              have e3 : [y].filter (fun x => x != m) = [y] := by simp [HYM.out]
              rw [HTS.out, ← Ht.out, e3, take_succ_i _ i (by rw [List.length_set, Hy.out]; omega), List.take_set, List.set_eq_of_length_le (by simp; omega), getD_set _ _ _ _ (by rw [Hy.out]; omega), if_pos rfl]
            · show _ = _
              rw [List.drop_set_of_lt (by omega), ← List.drop_drop, ← List.drop_drop, Hd.out]
      · obtain rfl : j = n := by omega
        have hic : ¬ cap = i := by omega
        have hic' : ((cap : Int) = (i : Int)) = False := by rw [eq_iff_iff]; constructor; (intro h; omega); exact False.elim
        have hcl : ∀ ty, (Builtin.clear_ #[22] ty #[.slice (some ⟨g, i, none⟩) (j - i) (cap - i)]).run Try.prog wr = .ok (.tuple #[]) (wr.setCells g i (List.replicate (j - i) (.int .i64 0))) := fun ty =>
          Lib.run_clear_slice wr 22 3 ty (.int .i64 0) Try.underlying22 (fun w => by kernel_rfl) rfl rfl g i (j - i) (cap - i) (by omega) (fun z hz => by rw [(HC.out (i + z) (by omega)).1]; rfl) (fun z hz => (HC.out (i + z) (by omega)).2)
        have HR2 := hid (row_setCells (List.replicate (j - i) (Value.int .i64 0)) i Hr.out (by rw [ints_length, Hy.out, List.length_replicate]; omega))
        have HU2 := hid (cells_upd g (List.replicate (j - i) (Value.int .i64 0)) i Hu.out (.inl (by simp)))
        obtain ⟨W2, hW2⟩ : ∃ W2, W2 = wr.setCells g i (List.replicate (j - i) (.int .i64 0)) := ⟨_, rfl⟩
        rw [← hW2] at hcl HR2 HU2
        clear hW2
        go_wp2_with fail
        go_ret
        have hlen : (ys.take i).length = i := by rw [List.length_take, Hy.out]; omega
        have hfil : xs.filter (fun x => x != m) = ys.take i := by
          rw [Ht.out, List.take_of_length_le (by rw [HL.out]; exact Nat.le_refl _)]
        have hrt := row_take (m := i) HR2.out (by omega)
        have e4 : ((ints ys).take i ++ List.replicate (j - i) (Value.int .i64 0) ++ (ints ys).drop (i + (List.replicate (j - i) (Value.int .i64 0)).length)).take (i * 1) = ints (ys.take i) := by
          rw [Nat.mul_one, List.append_assoc, List.take_left' (by rw [List.length_take, ints_length, Hy.out]; omega)]
          simp [ints, List.map_take]
        rw [e4] at hrt
        refine ⟨_, rfl, ?_, fun k h => h, HU2.out⟩
        rw [hfil, hlen]
        exact hrt
set_option maxHeartbeats 4000000 in
set_option maxRecDepth 100000 in
theorem index_68 (E : Nat) (m : Int) (a : Option Addr) (n cap : Nat) (xs : List Int) (w : World) (hf : Asks 68 E m) (he : w.cell? ⟨E, 2, none⟩ = some (.int .i64 m)) (hx : IntRow w a xs) (hl : xs.length = n) (hn : n ≤ 1000000) :
    Calls Try.prog 65 #[.slice a n cap, .func (.func 68) #[] #[.pointer (some ⟨E, 0, none⟩)]] w fun e w' => w' = w ∧
      ((e = .returned (.int .i64 (-1)) ∧ ∀ x ∈ xs, x ≠ m) ∨ ∃ k : Nat, k < n ∧ e = .returned (.int .i64 (k : Int)) ∧ xs.getD k 0 = m ∧ ∀ j, j < k → xs.getD j 0 ≠ m) := by
  have HF := hid hf
  have HE := hid he
  have HX := hid hx
  have HL := hid hl
  clear hf he hx hl
  go_enter Try.func65, Try.ntmps65
  go_wp2_with fail
  go_loopg [8] n (fun d v8 wr => ∃ (i : Nat), v8 = .int .i64 (i : Int) ∧ i ≤ n ∧ Hid (i + d = n) ∧ Hid (∀ j, j < i → xs.getD j 0 ≠ m) ∧ Hid (wr = w))
  case atStart => exact ⟨0, rfl, by omega, by show _ = _; omega, hid (fun j hj => absurd hj (Nat.not_lt_zero j)), rfl⟩
  case round =>
    obtain ⟨i, rfl, hin, Hi, Hno, Hw⟩ := hrel
    obtain rfl := Hw.out
    by_cases hi : i < n
    · obtain ⟨x, rfl, cx⟩ := HX.out i (by rw [HL.out]; exact hi)
      obtain ⟨y, hy⟩ : ∃ y, y = xs.getD i 0 := ⟨_, rfl⟩
      rw [← hy] at cx
      have hi' : (i : Int) < (n : Int) := by omega
      have HY := hid hy
      clear hy
      by_cases hym : y = m
      · have b : (y == m) = true := by rw [beq_iff_eq]; exact hym
        have HYM := hid hym
        clear hym
        go_wp2_with fail
        refine (HF.out wr y HE.out).mono ?_
        rintro e w' ⟨rfl, rfl⟩
        go_wp2_with fail
        go_ret
        exact ⟨rfl, .inr ⟨i, hi, rfl, by rw [← HY.out]; exact HYM.out, Hno.out⟩⟩
      · have b : (y == m) = false := by rw [beq_eq_false_iff_ne]; exact hym
        have HYM := hid hym
        clear hym
        go_wp2_with fail
        refine (HF.out wr y HE.out).mono ?_
        rintro e w' ⟨rfl, rfl⟩
        go_wp2_with fail
        go_roundg (n - (i + 1))
        case measure => have := Hi.out; omega
        case rel =>
          refine ⟨i + 1, by go_num, by omega, by show _ = _; omega, hid (fun j hj => ?_), rfl⟩
          by_cases e : j = i
          · subst e; rw [← HY.out]; exact HYM.out
          · exact Hno.out j (by omega)
    · obtain rfl : i = n := by omega
      go_wp2_with fail
      go_ret
      refine ⟨rfl, .inl ⟨rfl, fun x hx => ?_⟩⟩
      obtain ⟨k, hk, e⟩ := List.getElem_of_mem hx
      have := Hno.out k (by rw [← HL.out]; exact hk)
      rw [← e]
      simpa [List.getD_eq_getElem?_getD, hk] using this

set_option maxHeartbeats 8000000 in
set_option maxRecDepth 100000 in
/-- 'slices.DeleteFunc(way, is m)': what is left is the list without m. -/
theorem deleteFunc_68 (E : Nat) (m : Int) (e0 e1 : Value) (B : Nat) (v : Value) (n : Nat) (xs : List Int) (w : World) (hf : Asks 68 E m) (he : w.heap[E]? = some (.cells #[e0, e1, .int .i64 m] 31 (0, 0))) (hv : w.ownsRow B 3 1 v n (ints xs)) (hn : n ≤ 1000) :
    Calls Try.prog 41 #[v, .func (.func 68) #[] #[.pointer (some ⟨E, 0, none⟩)]] w fun e w' => ∃ v', e = .returned v' ∧ w'.ownsRow B 3 1 v' (xs.filter (fun x => x != m)).length (ints (xs.filter (fun x => x != m))) ∧ (∀ k, v'.ownBlock = some k → v.ownBlock = some k) ∧ Upd v.ownBlock.toList w w' := by
  have hl : xs.length = n := by have := hv.1; rw [ints_length] at this; omega
  have e2 : w.cell? ⟨E, 2, none⟩ = some (.int .i64 m) := (blk_cell he 2).trans rfl
  obtain ⟨a, cap, rfl, h1, h2, hrow⟩ : ∃ a cap, v = .slice a n cap ∧ n ≤ cap ∧ cap ≤ 9223372036854775807 ∧ IntRow w a xs := by
    rw [← hl] at hv
    obtain ⟨a, cap, e, h⟩ := intRow_of hv
    exact ⟨a, cap, by rw [e, hl], by omega, h.2.1, h.2.2⟩
  have ind := index_68 E m a n cap xs w hf e2 hrow hl (by omega)
  have HF := hid hf
  have HE := hid he
  have HV := hid hv
  have HL := hid hl
  clear hf he hv hl hrow e2
  go_enter Try.func41, Try.ntmps41
  go_wp2_with fail
  refine ind.mono ?_
  rintro e w' ⟨rfl, ⟨rfl, hno⟩ | ⟨k, hk, rfl, hkm, hkno⟩⟩
  · have HNO := hid hno
    clear ind hno
    go_wp2_with fail
    go_ret
    refine ⟨_, rfl, ?_, fun k h => h, Upd.refl _ _⟩
    rw [filter_none HNO.out, HL.out]
    exact HV.out
  · have hlk : k < xs.length := by rw [HL.out]; exact hk
    have HKF := hid (filter_front hlk hkm hkno)
    have HKL := hid hlk
    clear ind hkm hkno hlk
    obtain ⟨g, cap', rfl, hgw, hgB, hcurE⟩ : ∃ g c', a = some ⟨g, 0, none⟩ ∧ g < w'.heap.size ∧ B ≤ g ∧ c' = cap := by
      obtain ⟨a', c', e, h1, h2, h3⟩ := own_view HV.out
      cases e
      obtain ⟨g, rfl, hb, hc, _⟩ := h3 0 _ (ints_get xs 0 (by have := HL.out; omega))
      exact ⟨g, _, rfl, World.block_lt_of_cell? w' _ hc, hb, rfl⟩
    clear hcurE
    have nb : (k : Int) ≠ -1 := by omega
    have nbb : ((k : Int) == -1) = false := by rw [beq_eq_false_iff_ne]; exact nb
    clear nb
    have neG : Hid (g ≠ E) := by
      show g ≠ E
      obtain ⟨cur, hg⟩ := own_block HV.out g rfl
      exact blk_ne hg HE.out (by decide)
    go_wp2_with fail
    go_loopg [5, 6] (n - (k + 1)) (fun d v5 v6 wr => ∃ (i j : Nat) (ys : List Int), v5 = .int .i64 (i : Int) ∧ v6 = .int .i64 (j : Int) ∧ i < j ∧ j ≤ n ∧ Hid (j + d = n) ∧ Hid (wr.ownsRow B 3 1 (.slice (some ⟨g, 0, none⟩) n cap) n (ints ys)) ∧ Hid (ys.take i = (xs.take j).filter (fun x => x != m)) ∧ Hid (ys.drop j = xs.drop j) ∧ Hid (ys.length = n) ∧ Hid (Upd [g] w' wr))
    case atStart =>
      refine ⟨k, k + 1, xs, rfl, by go_num, by omega, by omega, by show _ = _; omega, HV.out, HKF.out.symm, rfl, HL.out, Upd.refl _ _⟩
    case round =>
      obtain ⟨i, j, ys, rfl, rfl, hij, hjn, Hj, Hr, Ht, Hd, Hy, Hu⟩ := hrel
      have hcell : ∀ z, z < n → wr.cell? ⟨g, z, none⟩ = some (.int .i64 (ys.getD z 0)) ∧ wr.frozen? ⟨g, z, none⟩ = false := fun z hz => by
        obtain ⟨a', c', e, h1, h2, h3⟩ := own_view Hr.out
        cases e
        obtain ⟨g', e, hb, hc, hfz⟩ := h3 z _ (ints_get ys z (by rw [Hy.out]; exact hz))
        cases e
        exact ⟨hc, hfz z⟩
      have HC := hid hcell
      clear hcell
      by_cases hj : j < n
      · have hj' : (j : Int) < (n : Int) := by omega
        have hi' : (i : Int) < (n : Int) := by omega
        obtain ⟨y, hy⟩ : ∃ y, y = ys.getD j 0 := ⟨_, rfl⟩
        obtain ⟨x, hx⟩ : ∃ x, x = ys.getD i 0 := ⟨_, rfl⟩
        have q1 := (HC.out j hj).1
        have q2 := (HC.out i (by omega)).1
        have q3 := (HC.out i (by omega)).2
        rw [← hy] at q1
        rw [← hx] at q2
        have hyx : y = xs.getD j 0 := by
          have := congrArg (fun l : List Int => l.getD 0 0) Hd.out
          simp only [List.getD_eq_getElem?_getD, List.getElem?_drop, Nat.add_zero] at this
          rw [hy]; simpa [List.getD_eq_getElem?_getD] using this
        have ce := (Hu.out.blk HE.out (by simpa using Ne.symm neG.out))
        have CE : Hid (wr.cell? ⟨E, 2, none⟩ = some (.int .i64 m)) := (blk_cell ce 2).trans rfl
        have HYX := hid hyx
        clear hy hx hyx ce
        have hts : (xs.take (j + 1)).filter (fun x => x != m) = (xs.take j).filter (fun x => x != m) ++ [y].filter (fun x => x != m) := by
          rw [take_succ_i xs j (by rw [HL.out]; exact hj), List.filter_append, HYX.out]
        have HTS := hid hts
        clear hts
        by_cases hym : y = m
        · have b : (y == m) = true := by rw [beq_iff_eq]; exact hym
          have HYM := hid hym
          clear hym
          go_wp2_with fail
          refine (HF.out wr y CE.out).mono ?_
          rintro e w2 ⟨rfl, rfl⟩
          go_wp2_with fail
          go_roundg (n - (j + 1))
          case measure => have := Hj.out; omega
          case rel =>
            refine ⟨i, j + 1, ys, rfl, by go_num, by omega, by omega, by show _ = _; omega, Hr.out, ?_, ?_, Hy.out, Hu.out⟩
            · show _ = _
              rw [HTS.out, ← Ht.out, HYM.out]; simp
            · show _ = _
              rw [← List.drop_drop, ← List.drop_drop, Hd.out]
        · have b : (y == m) = false := by rw [beq_eq_false_iff_ne]; exact hym
          have HYM := hid hym
          clear hym
          go_wp2_with fail
          refine (HF.out wr y CE.out).mono ?_
          rintro e w2 ⟨rfl, rfl⟩
          go_wp2_with fail
          go_roundg (n - (j + 1))
          case measure => have := Hj.out; omega
          case rel =>
            have hs := row_set (i := i) Hr.out (by rw [ints_length, Hy.out]; omega) (.int .i64 y)
            rw [ints_set] at hs
            refine ⟨i + 1, j + 1, ys.set i y, by go_num, by go_num, by omega, by omega, by show _ = _; omega, hs, ?_, ?_, by show _ = _; rw [List.length_set]; exact Hy.out, Hu.out.setCell (.inl (by simp)) _⟩
            · show _ = _
              have e3 : [y].filter (fun x => x != m) = [y] := by simp [HYM.out]
              rw [HTS.out, ← Ht.out, e3, take_succ_i _ i (by rw [List.length_set, Hy.out]; omega), List.take_set, List.set_eq_of_length_le (by simp; omega), getD_set _ _ _ _ (by rw [Hy.out]; omega), if_pos rfl]
            · show _ = _
              rw [List.drop_set_of_lt (by omega), ← List.drop_drop, ← List.drop_drop, Hd.out]
      · obtain rfl : j = n := by omega
        have hic : ¬ cap = i := by omega
        have hic' : ((cap : Int) = (i : Int)) = False := by rw [eq_iff_iff]; constructor; (intro h; omega); exact False.elim
        have hcl : ∀ ty, (Builtin.clear_ #[22] ty #[.slice (some ⟨g, i, none⟩) (j - i) (cap - i)]).run Try.prog wr = .ok (.tuple #[]) (wr.setCells g i (List.replicate (j - i) (.int .i64 0))) := fun ty =>
          Lib.run_clear_slice wr 22 3 ty (.int .i64 0) Try.underlying22 (fun w => by kernel_rfl) rfl rfl g i (j - i) (cap - i) (by omega) (fun z hz => by rw [(HC.out (i + z) (by omega)).1]; rfl) (fun z hz => (HC.out (i + z) (by omega)).2)
        have HR2 := hid (row_setCells (List.replicate (j - i) (Value.int .i64 0)) i Hr.out (by rw [ints_length, Hy.out, List.length_replicate]; omega))
        have HU2 := hid (cells_upd g (List.replicate (j - i) (Value.int .i64 0)) i Hu.out (.inl (by simp)))
        obtain ⟨W2, hW2⟩ : ∃ W2, W2 = wr.setCells g i (List.replicate (j - i) (.int .i64 0)) := ⟨_, rfl⟩
        rw [← hW2] at hcl HR2 HU2
        clear hW2
        go_wp2_with fail
        go_ret
        have hlen : (ys.take i).length = i := by rw [List.length_take, Hy.out]; omega
        have hfil : xs.filter (fun x => x != m) = ys.take i := by
          rw [Ht.out, List.take_of_length_le (by rw [HL.out]; exact Nat.le_refl _)]
        have hrt := row_take (m := i) HR2.out (by omega)
        have e4 : ((ints ys).take i ++ List.replicate (j - i) (Value.int .i64 0) ++ (ints ys).drop (i + (List.replicate (j - i) (Value.int .i64 0)).length)).take (i * 1) = ints (ys.take i) := by
          rw [Nat.mul_one, List.append_assoc, List.take_left' (by rw [List.length_take, ints_length, Hy.out]; omega)]
          simp [ints, List.map_take]
        rw [e4] at hrt
        refine ⟨_, rfl, ?_, fun k h => h, HU2.out⟩
        rw [hfil, hlen]
        exact hrt
