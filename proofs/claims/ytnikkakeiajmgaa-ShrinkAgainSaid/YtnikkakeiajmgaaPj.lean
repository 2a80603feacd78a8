/- The walks of slices.Clone at steps and of part.Swaps. -/
import Derived.Test.YtnikkakeiajmgaaPd
import Derived.Shelf.SlicesE.Clone
namespace Go.Proofs.Ytnikkakeiajmgaa.Pa
open Go Go.RowKit Go.Proofs Go.Proofs.Ytnikkakeiajmgaa Go.Proofs.Ytnikkakeiajmgaa.K Go.Proofs.Ytnikkakeiajmgaa.M Go.Proofs.Ytnikkakeiajmgaa.O Go.Proofs.Ytnikkakeiajmgaa.R Go.Proofs.Ytnikkakeiajmgaa.Pt

def laysSt_ren : Go.Shelf.Ren := ⟨fun | 41 => 11 | n => n, fun | 22 => 24 | 23 => 29 | 4 => 4 | n => n, fun | n => n⟩
theorem laysSt : Go.Proofs.SlLaysE0.n41 Try.prog laysSt_ren := {
  mixed := by kernel_rfl
  f41 := ⟨Try.f11.name, by decide, Try.func11.trans (congrArg some (by kernel_rfl))⟩
  t4 := Try.underlying4
  a4 := Try.isAgg4
  z4 := Try.sizeOf4
  v4 := Try.zeroValue4
  t22 := Try.underlying24
  a22 := Try.isAgg24
  z22 := Try.sizeOf24
  v22 := Try.zeroValue24 }
theorem cells_one (l : List St) : ∀ u ∈ cellsOf l, u.oneCell' = true := fun u hu => by
  unfold cellsOf at hu
  obtain ⟨e, _, h⟩ := List.mem_flatMap.1 hu
  exact stc_one e u h
set_option maxHeartbeats 4000000 in
set_option maxRecDepth 100000 in
theorem clone_nil (w : World) : Calls Try.prog 11 #[.slice none 0 0] w fun e w' => e = .returned (.slice none 0 0) ∧ Upd [] w w' := by
  have h : ∀ w, (binOp .eql 24 (.slice none 0 0) (.slice none 0 0)).run Try.prog w = .ok (.bool true) w := fun w => by kernel_rfl
  go_enter Try.func11, Try.ntmps11
  go_wp2_with fail
  go_ret
  exact ⟨rfl, Upd.refl [] w⟩
theorem clone_steps (v : Value) (L : List St) (w : World) (B : Nat) (h : StepsOf w B v L) (hn : L.length ≤ 1000) :
    Calls Try.prog 11 #[v] w fun e w' => ∃ v', e = .returned v' ∧ StepsOf w' w.heap.size v' L ∧ Upd [] w w' := by
  obtain ⟨a, k, rfl, hk, hk2, hc⟩ := own_view h
  cases a with
  | none =>
    have e1 : L.length = 0 ∧ k = 0 := by
      rcases h.2 with ⟨e, e0⟩ | ⟨g, cap, cur, e, _⟩
      · simp only [Value.slice.injEq] at e; exact ⟨e0, e.2.2⟩
      · simp at e
    obtain ⟨e0, rfl⟩ := e1
    have : L = [] := List.eq_nil_of_length_eq_zero e0
    subst this
    exact (clone_nil w).mono fun _ _ ⟨he, hu⟩ => ⟨_, he, World.ownsRow_nil _ _ _ _, hu⟩
  | some ad =>
    obtain ⟨g, rfl⟩ : ∃ g, ad = ⟨g, 0, none⟩ := by
      rcases h.2 with ⟨e, _⟩ | ⟨g, cap, cur, e, _⟩
      · simp at e
      · simp only [Value.slice.injEq, Option.some.injEq] at e; exact ⟨g, e.1⟩
    obtain ⟨i29, hi, hz0, hz1, hz2⟩ := info_parts info29
    refine (Go.Proofs.AnyE.slices_Clone laysSt i29 _ 3 24 hi hz0 hz1 hz2 rfl (by decide) (fun w => by kernel_rfl) g 0 L.length k (cellsOf L) w (by rw [cellsOf_length]) (by unfold maxLen; omega) (by omega) (fun j u hu => by
      rw [Nat.zero_add]
      obtain ⟨g', e', _, hc', _⟩ := hc j u hu
      simp only [Option.some.injEq, Addr.mk.injEq, and_true] at e'
      subst e'; exact hc') (cells_one L)).mono ?_
    rintro e w' ⟨v', rfl, ho, _, hb⟩
    exact ⟨v', rfl, ho, Upd.of_below hb []⟩

set_option maxHeartbeats 8000000 in
set_option maxRecDepth 100000 in
theorem swaps_any (a : Option Addr) (xs : List St) (n c : Nat) (w : World) (hn : n = xs.length) (h40 : n ≤ 40) (hx : StepAt w a xs) :
    Calls Try.prog 21 #[.slice a n c] w fun e w' => e = .returned (.tuple #[.int .i64 ((nsw depS xs : Nat) : Int), .int .i64 0]) ∧ Upd [] w w' := by
  have CK := hid (check_any a xs n c w hn h40 hx)
  have HN := hid hn
  have HX := hid hx
  clear hn hx
  go_enter Try.func21, Try.ntmps21
  go_wp2_with fail
  refine CK.out.mono ?_
  rintro e w1 ⟨rfl, hu⟩
  have U1 := hid hu
  clear hu CK
  go_wp2_with fail
  go_loopg [5, 15] n (fun d v5 v15 wr => ∃ (i : Nat), v15 = .int .i64 (i : Int) ∧ v5 = .int .i64 ((nsw depS (xs.take i) : Nat) : Int) ∧ i ≤ n ∧ Hid (i + d = n) ∧ Hid (Upd [] w wr))
  case atStart => exact ⟨0, rfl, rfl, by omega, hid (by omega), U1⟩
  case round =>
    clear U1
    obtain ⟨i, rfl, rfl, hi, Hd, HU⟩ := hrel
    by_cases hin : i < n
    · have hi' : (i : Int) < (n : Int) := by omega
      have hix : i < xs.length := by rw [← HN.out]; exact hin
      have HS0 := hid (nsw_snoc depS (xs.take i) (xs[i]'hix))
      have HTK := hid (List.take_succ_eq_append_getElem hix)
      have HIX := hid hix
      obtain ⟨s, hs⟩ : ∃ s : St, s = xs[i]'hix := ⟨_, rfl⟩
      rw [← hs] at HS0 HTK
      have HS := hid hs
      obtain ⟨b, hb⟩ : ∃ b, b = nsw depS (xs.take i) := ⟨_, rfl⟩
      have hb9 : b ≤ 1600 := by
        have h1 := nsw_le depS (xs.take i)
        have h2 : (xs.take i).length ≤ 40 := by rw [List.length_take]; omega
        have h3 := Nat.mul_le_mul h2 h2
        omega
      rw [← hb] at HS0 ⊢
      clear hs hb
      go_wp2_with fail
      go_loopg [5, 19] i (fun d v5 v19 wz => ∃ (k : Nat), v19 = .int .i64 (k : Int) ∧ v5 = .int .i64 ((b + (xs.take k).countP (fun x => !depS x s) : Nat) : Int) ∧ k ≤ i ∧ Hid (k + d = i) ∧ Hid (Upd [] w wz))
      case atStart => exact ⟨0, rfl, rfl, by omega, hid (by omega), HU⟩
      case round =>
        clear HU
        obtain ⟨k, rfl, rfl, hk, Hk, HU⟩ := hrel
        have hp9 : (xs.take k).countP (fun x => !depS x s) ≤ 40 := by
          have h1 : (xs.take k).countP (fun x => !depS x s) ≤ (xs.take k).length := List.countP_le_length
          rw [List.length_take] at h1; omega
        obtain ⟨p, hp⟩ : ∃ p, p = (xs.take k).countP (fun x => !depS x s) := ⟨_, rfl⟩
        rw [← hp] at hp9 ⊢
        have HP := hid hp
        clear hp
        by_cases hki : k < i
        · have hk' : (k : Int) < (i : Int) := by omega
          have hkx : k < xs.length := by have := HN.out; omega
          have hkn : (k : Int) < (n : Int) := by omega
          obtain ⟨g, rfl, c0, c1, c2⟩ := (HX.out.upd HU.out) i HIX.out
          obtain ⟨g', eg, d0, d1, d2⟩ := (HX.out.upd HU.out) k hkx
          simp only [Option.some.injEq, Addr.mk.injEq, and_true] at eg
          subst eg
          rw [← HS.out] at c0 c1 c2
          obtain ⟨t, ht⟩ : ∃ t : St, t = xs[k]'hkx := ⟨_, rfl⟩
          rw [← ht] at d0 d1 d2
          have HT := hid ht
          have HKX := hid hkx
          have DP := fun w => hid (depend_any t s w)
          clear ht
          obtain ⟨t0, ht0⟩ : ∃ t0 : Nat, t0 = t.who.val := ⟨_, rfl⟩
          obtain ⟨t1, ht1⟩ : ∃ t1 : Nat, t1 = t.rd.val := ⟨_, rfl⟩
          obtain ⟨t2, ht2⟩ : ∃ t2 : Nat, t2 = t.wr.val := ⟨_, rfl⟩
          obtain ⟨s0, hs0⟩ : ∃ s0 : Nat, s0 = s.who.val := ⟨_, rfl⟩
          obtain ⟨s1, hs1⟩ : ∃ s1 : Nat, s1 = s.rd.val := ⟨_, rfl⟩
          obtain ⟨s2, hs2⟩ : ∃ s2 : Nat, s2 = s.wr.val := ⟨_, rfl⟩
          have TC : stc t = [.int .i64 (t0 : Int), .int .i64 (t1 : Int), .int .i64 (t2 : Int)] := by rw [ht0, ht1, ht2]; rfl
          have SC : stc s = [.int .i64 (s0 : Int), .int .i64 (s1 : Int), .int .i64 (s2 : Int)] := by rw [hs0, hs1, hs2]; rfl
          rw [← ht0] at d0
          rw [← ht1] at d1
          rw [← ht2] at d2
          rw [← hs0] at c0
          rw [← hs1] at c1
          rw [← hs2] at c2
          rw [TC, SC] at DP
          clear ht0 ht1 ht2 hs0 hs1 hs2 TC SC
          obtain ⟨dd, hdd⟩ : ∃ dd, dd = depS t s := ⟨_, rfl⟩
          rw [← hdd] at DP
          have HDD := hid hdd
          clear hdd
          go_upto_region 11 with (fail)
          refine J.J_begin (fun wz => wz.cell? ⟨g, k * 3, none⟩ = some (.int .i64 (t0 : Int)) ∧ wz.cell? ⟨g, k * 3 + 1, none⟩ = some (.int .i64 (t1 : Int)) ∧ wz.cell? ⟨g, k * 3 + 2, none⟩ = some (.int .i64 (t2 : Int)) ∧ wz.cell? ⟨g, i * 3, none⟩ = some (.int .i64 (s0 : Int)) ∧ wz.cell? ⟨g, i * 3 + 1, none⟩ = some (.int .i64 (s1 : Int)) ∧ wz.cell? ⟨g, i * 3 + 2, none⟩ = some (.int .i64 (s2 : Int))) 9 (by kernel_rfl) ⟨by kernel_rfl, by kernel_rfl, by kernel_rfl⟩ ⟨d0, d1, d2, c0, c1, c2⟩ (fun LAST HS => ?_)
          refine J.J_take (i := 0) (v := ?_) LAST (by rfl) (by decide) (by kernel_rfl) (by kernel_rfl) (by intro _ _ _ h; exact h) HS (Or.inl ⟨by rfl, ?_⟩) ?_
          rotate_left
          · intro w hSw; (try dsimp only at hSw); go_simp; try with_reducible rfl
          try simp only [Act.put, List.setIfInBounds_toArray, List.set_cons_zero, List.set_cons_succ]
          refine J.J_take (i := 1) (v := ?_) LAST (by rfl) (by decide) (by kernel_rfl) (by kernel_rfl) (by intro _ _ _ h; exact h) HS (Or.inl ⟨by rfl, ?_⟩) ?_
          rotate_left
          · intro w hSw; (try dsimp only at hSw); go_simp; try with_reducible rfl
          try simp only [Act.put, List.setIfInBounds_toArray, List.set_cons_zero, List.set_cons_succ]
          refine J.J_take (i := 2) (v := ?_) LAST (by rfl) (by decide) (by kernel_rfl) (by kernel_rfl) (by intro _ _ _ h; exact h) HS (Or.inl ⟨by rfl, ?_⟩) ?_
          rotate_left
          · intro w hSw; (try dsimp only at hSw); go_simp; try with_reducible rfl
          try simp only [Act.put, List.setIfInBounds_toArray, List.set_cons_zero, List.set_cons_succ]
          refine J.J_take (i := 3) (v := ?_) LAST (by rfl) (by decide) (by kernel_rfl) (by kernel_rfl) (by intro _ _ _ h; exact h) HS (Or.inl ⟨by rfl, ?_⟩) ?_
          rotate_left
          · intro w hSw; (try dsimp only at hSw); go_simp; try with_reducible rfl
          try simp only [Act.put, List.setIfInBounds_toArray, List.set_cons_zero, List.set_cons_succ]
          refine J.J_take (i := 4) (v := ?_) LAST (by rfl) (by decide) (by kernel_rfl) (by kernel_rfl) (by intro _ _ _ h; exact h) HS (Or.inl ⟨by rfl, ?_⟩) ?_
          rotate_left
          · intro w hSw; (try dsimp only at hSw); go_simp; try with_reducible rfl
          try simp only [Act.put, List.setIfInBounds_toArray, List.set_cons_zero, List.set_cons_succ]
          refine J.J_take (i := 5) (v := ?_) LAST (by rfl) (by decide) (by kernel_rfl) (by kernel_rfl) (by intro _ _ _ h; exact h) HS (Or.inl ⟨by rfl, ?_⟩) ?_
          rotate_left
          · intro w hSw; (try dsimp only at hSw); go_simp; try with_reducible rfl
          try simp only [Act.put, List.setIfInBounds_toArray, List.set_cons_zero, List.set_cons_succ]
          refine J.J_take (i := 6) (v := ?_) LAST (by rfl) (by decide) (by kernel_rfl) (by kernel_rfl) (by intro _ _ _ h; exact h) HS (Or.inl ⟨by rfl, ?_⟩) ?_
          rotate_left
          · intro w hSw; (try dsimp only at hSw); go_simp; try with_reducible rfl
          try simp only [Act.put, List.setIfInBounds_toArray, List.set_cons_zero, List.set_cons_succ]
          refine J.J_take (i := 7) (v := ?_) LAST (by rfl) (by decide) (by kernel_rfl) (by kernel_rfl) (by intro _ _ _ h; exact h) HS (Or.inl ⟨by rfl, ?_⟩) ?_
          rotate_left
          · intro w hSw; (try dsimp only at hSw); go_simp; try with_reducible rfl
          try simp only [Act.put, List.setIfInBounds_toArray, List.set_cons_zero, List.set_cons_succ]
          refine J.J_one (i := 8) (by rfl) (by decide) (by kernel_rfl) (fun KK hK => ?_)
          go_simp
          refine (DP _).out.mono ?_
          rintro e w4 ⟨rfl, hu4⟩
          have u4 := hid (show Upd [] wr w4 from (Upd.refl [] wr).drew.trans hu4 (fun t ht => by cases ht))
          go_simp
          refine hK.out _ _ ⟨u4.out.cell d0 (by simp), u4.out.cell d1 (by simp), u4.out.cell d2 (by simp), u4.out.cell c0 (by simp), u4.out.cell c1 (by simp), u4.out.cell c2 (by simp)⟩ ?_
          clear hK KK
          try simp only [List.setIfInBounds_toArray]
          refine J.J_last (by rfl) (by kernel_rfl) (by kernel_rfl) ?_
          clear LAST HS hu4 DP c0 c1 c2 d0 d1 d2
          have U4 := hid (HU.out.trans u4.out (fun t ht => by cases ht))
          have CP := hid (show (xs.take (k + 1)).countP (fun x => !depS x s) = p + if dd = true then 0 else 1 by
            rw [List.take_succ_eq_append_getElem HKX.out, List.countP_append, ← HP.out, ← HT.out, HDD.out]
            cases hq : depS t s <;> simp [hq])
          have hwb : IntKind.i64.wrap (((b + p : Nat) : Int) + 1) = ((b + p + 1 : Nat) : Int) := by rw [IntWalk.i64_in _ (by omega)]; omega
          clear HU
          cases dd with
          | true =>
            go_simp
            go_wp2_with fail
            go_roundg (i - (k + 1))
            case measure => have := Hk.out; omega
            case rel => exact ⟨k + 1, by go_num, by rw [CP.out]; rfl, by omega, hid (by omega), U4⟩
          | false =>
            go_simp
            go_wp2_with fail
            go_roundg (i - (k + 1))
            case measure => have := Hk.out; omega
            case rel => exact ⟨k + 1, by go_num, by rw [CP.out]; rfl, by omega, hid (by omega), U4⟩
        · have ek : k = i := by omega
          have hk' : ¬ (k : Int) < (i : Int) := by omega
          go_wp2_with fail
          go_roundg (n - (i + 1))
          case measure => have := Hd.out; omega
          case rel =>
            have e : nsw depS (xs.take (i + 1)) = b + p := by rw [HTK.out, HS0.out, HP.out, ek]
            exact ⟨i + 1, by go_num, by rw [e]; rfl, by omega, hid (by omega), HU⟩
    · have ei : i = n := by omega
      have hi' : ¬ (i : Int) < (n : Int) := by omega
      go_wp2_with fail
      go_ret2
      refine ⟨?_, HU.out⟩
      rw [HN.out, List.take_length]
      rfl
end Go.Proofs.Ytnikkakeiajmgaa.Pa
