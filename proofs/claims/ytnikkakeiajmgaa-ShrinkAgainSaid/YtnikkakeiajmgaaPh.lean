/- The walk of part.Rounds. -/
import Derived.Test.YtnikkakeiajmgaaPg
namespace Go.Proofs.Ytnikkakeiajmgaa.Pa
open Go Go.RowKit Go.Proofs.Ytnikkakeiajmgaa Go.Proofs.Ytnikkakeiajmgaa.K Go.Proofs.Ytnikkakeiajmgaa.M Go.Proofs.Ytnikkakeiajmgaa.O Go.Proofs.Ytnikkakeiajmgaa.R Go.Proofs.Ytnikkakeiajmgaa.Pt

set_option maxHeartbeats 16000000 in
set_option maxRecDepth 100000 in
theorem rounds_any (a : Option Addr) (xs : List St) (n c : Nat) (w : World) (hn : n = xs.length) (h40 : n ≤ 40) (hx : StepAt w a xs) :
    Calls Try.prog 14 #[.slice a n c] w fun e w' => ∃ v, e = .returned (.tuple #[v, .int .i64 0]) ∧ (∃ R, OutAt w' w.heap.size v R ∧ IsRounds whoS (pairs depS xs) R) ∧ Upd [] w w' := by
  obtain ⟨i29, hi29, hz29a, hz29b, hz29c⟩ := info_parts info29
  have HI29 := hid hi29
  have HA29 := hid hz29a
  have HB29 := hid hz29b
  have HC29 := hid hz29c
  obtain ⟨i24, hi24, hz24a, hz24b, hz24c⟩ := info_parts info24
  have HI24 := hid hi24
  have HA24 := hid hz24a
  have HB24 := hid hz24b
  have HC24 := hid hz24c
  clear hi29 hz29a hz29b hz29c hi24 hz24a hz24b hz24c
  have CK := hid (check_any a xs n c w hn h40 hx)
  obtain ⟨B, hB⟩ : ∃ B, B = w.heap.size := ⟨_, rfl⟩
  have HBS := hid hB
  rw [← hB]
  have HN := hid hn
  have HX := hid hx
  clear hn hx hB
  have hmk := makeI n (by omega)
  go_enter Try.func14, Try.ntmps14
  go_wp2_with fail
  refine CK.out.mono ?_
  rintro e w1 ⟨rfl, hu⟩
  have U1 := hid hu
  clear hu CK
  go_wp2_with fail
  obtain ⟨A, hA⟩ : ∃ A, A = w1.heap.size := ⟨_, rfl⟩
  have AR := hid (arr_new w1 (List.replicate n (.int .i64 0)) 3 n (fun z => .int .i64 ((atF (pairs depS (xs.take 0)) 0 0 z : Nat) : Int)) (by simp) (fun z hz => by
    rw [List.getElem?_replicate, if_pos hz]
    have e : atF (pairs depS (xs.take 0)) 0 0 z = 0 := by unfold atF; split; omega; split <;> rfl
    rw [e]; rfl))
  rw [← hA] at AR ⊢
  have BA := hid (show B ≤ A by rw [hA]; have := U1.out.size; have := HBS.out; omega)
  clear hA hmk
  go_loopg [6, 22] n (fun d v6 v22 wr => ∃ (i : Nat) (us : List Value) (R : List (List St)), v22 = .int .i64 (i : Int) ∧ i ≤ n ∧ Hid (i + d = n) ∧ Hid (Arr wr A 3 n (fun z => .int .i64 ((atF (pairs depS (xs.take i)) i 0 z : Nat) : Int))) ∧ Hid (wr.ownsRow B 24 1 v6 R.length us) ∧ Hid (Rnd wr B us R) ∧ Hid (URounds (pairs depS (xs.take i)) R) ∧ Hid (Upd [] w wr))
  case atStart =>
    exact ⟨0, [], [], rfl, by omega, hid (by omega), AR, hid (World.ownsRow_nil _ _ _ _), hid (Rnd.nil _ _), hid URounds.start, hid (U1.out.alloc _)⟩
  case round =>
    clear AR
    obtain ⟨i, us, R, rfl, hi, Hd, HA, HO, HR, HUR, HU⟩ := hrel
    obtain ⟨a6, k6, e6, -⟩ := own_view HO.out
    subst e6
    obtain ⟨q, hq⟩ : ∃ q, q = R.length := ⟨_, rfl⟩
    rw [← hq] at HO ⊢
    have HQ := hid hq
    clear hq
    by_cases hin : i < n
    · have hi' : (i : Int) < (n : Int) := by omega
      have hix : i < xs.length := by rw [← HN.out]; exact hin
      have HIX := hid hix
      obtain ⟨g, rfl, c0, c1, c2⟩ := (HX.out.upd HU.out) i hix
      obtain ⟨s, hs⟩ : ∃ s : St, s = xs[i]'hix := ⟨_, rfl⟩
      rw [← hs] at c0 c1 c2
      have HS := hid hs
      obtain ⟨P, hP⟩ : ∃ P, P = pairs depS (xs.take i) := ⟨_, rfl⟩
      have HP := hid hP
      have hPl : P.length = i := by rw [hP, pairs_len, List.length_take]; omega
      have HPL := hid hPl
      rw [← hP] at HA HUR
      have QL := hid (show q ≤ i by
        have h := HUR.out
        rw [hP] at h
        have := ur_len h
        rw [List.length_take] at this
        rw [HQ.out]; omega)
      obtain ⟨lv, hlv⟩ : ∃ lv, lv = lvOf depS P s := ⟨_, rfl⟩
      have HLV := hid hlv
      have LQ := hid (show lv ≤ R.length by rw [hlv]; exact HUR.out.lv_le s)
      clear hs hP hPl hlv
      have hin' := hid hin
      clear hin
      obtain ⟨s0, hs0⟩ : ∃ s0 : Nat, s0 = s.who.val := ⟨_, rfl⟩
      obtain ⟨s1, hs1⟩ : ∃ s1 : Nat, s1 = s.rd.val := ⟨_, rfl⟩
      obtain ⟨s2, hs2⟩ : ∃ s2 : Nat, s2 = s.wr.val := ⟨_, rfl⟩
      have SC := hid (show stc s = [.int .i64 (s0 : Int), .int .i64 (s1 : Int), .int .i64 (s2 : Int)] by rw [hs0, hs1, hs2]; rfl)
      rw [← hs0] at c0
      rw [← hs1] at c1
      rw [← hs2] at c2
      clear hs0 hs1 hs2
      obtain ⟨X, hX⟩ : ∃ X, X = wr.heap.size := ⟨_, rfl⟩
      have XU := hid (show ∀ j k, (us.getD j undef).ownBlock = some k → k < X from fun j k hk => by
        by_cases c : j < R.length
        · rw [hX]; exact own_lt (HR.out.own j c) k hk
        · rw [List.getD_eq_getElem?_getD, List.getElem?_eq_none (by rw [HR.out.len]; omega)] at hk; cases hk)
      go_wp2_with fail
      obtain ⟨w2, hw2⟩ : ∃ w2, w2 = wr.alloc (.cells #[.int .i64 (s0 : Int), .int .i64 (s1 : Int), .int .i64 (s2 : Int)] 29) := ⟨_, rfl⟩
      have u2 : Upd [] wr w2 := by rw [hw2]; exact (Upd.refl [] wr).alloc _
      have BX := hid (show w2.heap[X]? = some (.cells #[.int .i64 (s0 : Int), .int .i64 (s1 : Int), .int .i64 (s2 : Int)] 29 (0, 0)) by rw [hw2, hX]; exact K.blk_new wr _)
      have A2 := hid (HA.out.upd u2 (by simp))
      have O2 := hid (own_new HO.out u2)
      have R2 := hid (HR.out.new u2)
      have U2 := hid (HU.out.trans u2 (fun t ht => by cases ht))
      rw [← hw2, ← hX]
      clear hw2 u2 hX c0 c1 c2 HA HO HR HU
      go_loopg [28] i (fun d v28 wz => ∃ (k m : Nat), v28 = .int .i64 (k : Int) ∧ k ≤ i ∧ Hid (k + d = i) ∧ Hid (m = lvOf depS (P.take k) s) ∧ Hid (Arr wz A 3 n (fun z => .int .i64 ((atF P i m z : Nat) : Int))) ∧ Hid (wz.ownsRow B 24 1 (.slice a6 q k6) q us) ∧ Hid (Rnd wz B us R) ∧ Hid (wz.heap[X]? = some (.cells #[.int .i64 (s0 : Int), .int .i64 (s1 : Int), .int .i64 (s2 : Int)] 29 (0, 0))) ∧ Hid (Upd [] w wz))
      case atStart => exact ⟨0, 0, rfl, by omega, hid (by omega), hid rfl, A2, O2, R2, BX, U2⟩
      case round =>
        clear A2 O2 R2 BX U2
        obtain ⟨k, m, rfl, hk, Hk, HM, HA, HO, HR, HB, HU⟩ := hrel
        by_cases hki : k < i
        · have hk' : (k : Int) < (i : Int) := by omega
          have hkx : k < xs.length := by have := HN.out; omega
          have hkP : k < P.length := by rw [HPL.out]; exact hki
          obtain ⟨g', eg, d0, d1, d2⟩ := (HX.out.upd HU.out) k hkx
          simp only [Option.some.injEq, Addr.mk.injEq, and_true] at eg
          subst eg
          obtain ⟨t, ht⟩ : ∃ t : St, t = xs[k]'hkx := ⟨_, rfl⟩
          rw [← ht] at d0 d1 d2
          have HT := hid ht
          have DP := fun w => hid (depend_any t s w)
          have e0 : w2 = w2 := rfl
          clear ht e0
          obtain ⟨t0, ht0⟩ : ∃ t0 : Nat, t0 = t.who.val := ⟨_, rfl⟩
          obtain ⟨t1, ht1⟩ : ∃ t1 : Nat, t1 = t.rd.val := ⟨_, rfl⟩
          obtain ⟨t2, ht2⟩ : ∃ t2 : Nat, t2 = t.wr.val := ⟨_, rfl⟩
          have TC : stc t = [.int .i64 (t0 : Int), .int .i64 (t1 : Int), .int .i64 (t2 : Int)] := by rw [ht0, ht1, ht2]; rfl
          rw [← ht0] at d0
          rw [← ht1] at d1
          rw [← ht2] at d2
          rw [TC, SC.out] at DP
          clear ht0 ht1 ht2 TC
          obtain ⟨dd, hdd⟩ : ∃ dd, dd = depS t s := ⟨_, rfl⟩
          rw [← hdd] at DP
          have HDD := hid hdd
          clear hdd
          have x0 : wr.cell? ⟨X, 0, none⟩ = some (.int .i64 (s0 : Int)) := K.blk_cell HB.out 0
          have x1 : wr.cell? ⟨X, 1, none⟩ = some (.int .i64 (s1 : Int)) := K.blk_cell HB.out 1
          have x2 : wr.cell? ⟨X, 2, none⟩ = some (.int .i64 (s2 : Int)) := K.blk_cell HB.out 2
          have HKI := hid hki
          have hkn2 : k < n := by omega
          clear hki
          go_upto_region 12 with (fail)
          refine J.J_begin (fun wz => wz.cell? ⟨g, k * 3, none⟩ = some (.int .i64 (t0 : Int)) ∧ wz.cell? ⟨g, k * 3 + 1, none⟩ = some (.int .i64 (t1 : Int)) ∧ wz.cell? ⟨g, k * 3 + 2, none⟩ = some (.int .i64 (t2 : Int)) ∧ wz.cell? ⟨X, 0, none⟩ = some (.int .i64 (s0 : Int)) ∧ wz.cell? ⟨X, 1, none⟩ = some (.int .i64 (s1 : Int)) ∧ wz.cell? ⟨X, 2, none⟩ = some (.int .i64 (s2 : Int))) 5 (by kernel_rfl) ⟨by kernel_rfl, by kernel_rfl, by kernel_rfl⟩ ⟨d0, d1, d2, x0, x1, x2⟩ (fun LAST HS => ?_)
          refine J.J_take (i := 0) (v := ?_) LAST (by rfl) (by decide) (by kernel_rfl) (by kernel_rfl) (by intro _ _ _ h; exact h) HS (Or.inl ⟨by rfl, ?_⟩) ?_
          rotate_left
          · intro w hSw; (try dsimp only at hSw); go_simp; try with_reducible rfl
          try simp only [Act.put, List.setIfInBounds_toArray, List.set_cons_zero, List.set_cons_succ]
          refine J.J_take (i := 1) (v := ?_) LAST (by rfl) (by decide) (by kernel_rfl) (by kernel_rfl) (by intro _ _ _ h; exact h) HS (Or.inl ⟨by rfl, ?_⟩) ?_
          rotate_left
          · intro w hSw; (try dsimp only at hSw); go_simp; try with_reducible rfl
          try simp only [Act.put, List.setIfInBounds_toArray, List.set_cons_zero, List.set_cons_succ]
          refine J.J_take (i := 2) (v := ?_) LAST (by rfl) (by decide) (by kernel_rfl) (by kernel_rfl) (by intro _ _ _ h; exact h) HS (Or.inl ⟨by rfl, ?_⟩) ?_
          rotate_left
          · intro w hSw; (try dsimp only at hSw); go_simp; try with_reducible rfl
          try simp only [Act.put, List.setIfInBounds_toArray, List.set_cons_zero, List.set_cons_succ]
          refine J.J_take (i := 3) (v := ?_) LAST (by rfl) (by decide) (by kernel_rfl) (by kernel_rfl) (by intro _ _ _ h; exact h) HS (Or.inl ⟨by rfl, ?_⟩) ?_
          rotate_left
          · intro w hSw; (try dsimp only at hSw); go_simp; try with_reducible rfl
          try simp only [Act.put, List.setIfInBounds_toArray, List.set_cons_zero, List.set_cons_succ]
          refine J.J_take (i := 4) (v := ?_) LAST (by rfl) (by decide) (by kernel_rfl) (by kernel_rfl) (by intro _ _ _ h; exact h) HS (Or.inl ⟨by rfl, ?_⟩) ?_
          rotate_left
          · intro w hSw; (try dsimp only at hSw); go_simp; try with_reducible rfl
          try simp only [Act.put, List.setIfInBounds_toArray, List.set_cons_zero, List.set_cons_succ]
          refine J.J_last (by rfl) (by kernel_rfl) (by kernel_rfl) ?_
          clear LAST
          go_simp
          clear HS
          refine (DP _).out.mono ?_
          rintro e w4 ⟨rfl, hu4⟩
          have u4 := hid (show Upd [] wr w4 from (Upd.refl [] wr).drew.trans hu4 (fun t ht => by cases ht))
          have A4 := hid (HA.out.upd u4.out (by simp))
          have O4 := hid (own_new HO.out u4.out)
          have R4 := hid (HR.out.new u4.out)
          have B4 := hid (u4.out.blk HB.out (by simp))
          have U4 := hid (HU.out.trans u4.out (fun t ht => by cases ht))
          clear hu4 HA HO HR HB HU DP x0 x1 x2 d0 d1 d2
          have LN := hid (lv_next P s k hkP)
          have PT := hid (show P[k].1 = t by
            have h := pairs_get (xs.take i) k (by rw [← HP.out]; exact hkP)
            rw [HT.out]
            simp only [← HP.out] at h
            rw [h, List.getElem_take])
          cases dd with
          | false =>
            go_simp
            go_wp2_with fail
            go_roundg (i - (k + 1))
            case measure => have := Hk.out; omega
            case rel => exact ⟨k + 1, m, by go_num, by have := HKI.out; omega, hid (by have := HKI.out; omega), hid (by rw [LN.out, PT.out, if_neg (by rw [← HDD.out]; exact Bool.false_ne_true)]; exact HM.out), A4, O4, R4, B4, U4⟩
          | true =>
            obtain ⟨p, hp⟩ : ∃ p, p = P[k].2 := ⟨_, rfl⟩
            have HPK := hid hp
            have hp40 : p < 40 := by
              have h := lv_lt i (xs.take i) (by rw [List.length_take]; omega) P[k] (by rw [← HP.out]; exact List.getElem_mem _)
              rw [hp]; omega
            have hm40 : m ≤ 40 := by
              have h := lv_bound (xs.take i) s k
              rw [← HP.out, ← HM.out, List.length_take] at h; omega
            have hA4 := A4.out.val (z := k) (v := .int .i64 (p : Int)) (by have := HKI.out; omega) (by
              unfold atF
              rw [if_pos HKI.out, hp, List.getD_eq_getElem?_getD, List.getElem?_eq_getElem hkP]; rfl)
            have hA5 := A4.out.val (z := i) (v := .int .i64 (m : Int)) (by have := hin'.out; omega) (by
              unfold atF
              rw [if_neg (Nat.lt_irrefl _), if_pos rfl])
            have hAf := A4.out.fro i
            have hkn : (k : Int) < (n : Int) := by omega
            have hwp : IntKind.i64.wrap ((p : Int) + 1) = (p : Int) + 1 := IntWalk.i64_in _ (by omega)
            obtain ⟨mx, hmx⟩ : ∃ mx, mx = max m (p + 1) := ⟨_, rfl⟩
            have hmax := fun ats ty => max_nat ats ty .i64 .i64 (m : Int) ((p : Int) + 1) mx (by omega)
            have HMX := hid hmx
            clear hp hmx
            go_simp
            go_wp2_with fail
            refine region_tail 13 (by kernel_rfl) (by kernel_rfl) ?_
            simp only [List.take_succ_cons, List.take_zero, List.drop_succ_cons, List.drop_zero]
            repeat still_step
            refine wpStill_nil ?_
            go_wp2_with fail
            go_roundg (i - (k + 1))
            case measure => have := Hk.out; omega
            case rel =>
              have hAne : ∀ k cur, w4.heap[k]? = some (.cells cur 29 (0, 0)) → k ∉ [A] := fun k cur hk hs => by
                simp only [List.mem_singleton] at hs
                subst hs
                obtain ⟨cs, hb, _⟩ := A4.out
                rw [hb] at hk
                simp at hk
              refine ⟨k + 1, mx, by go_num, by have := HKI.out; omega, hid (by have := HKI.out; omega), hid ?_, hid ?_, hid ?_, hid ?_, hid ?_, hid ?_⟩
              · rw [LN.out, PT.out, if_pos (by rw [← HDD.out]), ← HM.out, ← HPK.out, HMX.out]
              · refine ((A4.out.set i _).congr (fun z hz => ?_))
                by_cases e : z = i
                · subst e
                  rw [if_pos rfl]
                  unfold atF
                  rw [if_neg (Nat.lt_irrefl _), if_pos rfl]
                · rw [if_neg e]
                  unfold atF
                  rw [if_neg e, if_neg e]
              · exact own_upd O4.out ((Upd.refl [A] w4).setCell (.inl (by simp)) _).drew (fun j hj hs => by
                  simp only [List.mem_singleton] at hs
                  obtain ⟨cs, hb, _⟩ := A4.out
                  exact own_cells_ne O4.out hb (by decide) j hj hs)
              · exact R4.out.upd ((Upd.refl [A] w4).setCell (.inl (by simp)) _).drew hAne
              · exact ((Upd.refl [A] w4).setCell (.inl (by simp)) _).drew.blk B4.out (hAne X _ B4.out)
              · exact U4.out.trans ((Upd.refl [A] w4).setCell (.inl (by simp)) _).drew (fun t ht => .inr (by simp at ht; subst ht; have := BA.out; have := HBS.out; omega))
        · have hk' : ¬ (k : Int) < (i : Int) := by omega
          have em : m = lv := by
            rw [HM.out, HLV.out, List.take_of_length_le (by rw [HPL.out]; omega)]
          clear HM hk Hk hki
          rw [em] at HA
          clear em
          go_wp2_with fail
          go_loopg [6] (lv + 1 - q) (fun d v6 wz => ∃ (us' : List Value) (R' : List (List St)), Hid (R' = R ∨ R' = room R lv) ∧ Hid (d = lv + 1 - R'.length) ∧ Hid (Arr wz A 3 n (fun z => .int .i64 ((atF P i lv z : Nat) : Int))) ∧ Hid (wz.ownsRow B 24 1 v6 R'.length us') ∧ Hid (Rnd wz B us' R') ∧ Hid (∀ j k, (us'.getD j undef).ownBlock = some k → k < X) ∧ Hid (wz.heap[X]? = some (.cells #[.int .i64 (s0 : Int), .int .i64 (s1 : Int), .int .i64 (s2 : Int)] 29 (0, 0))) ∧ Hid (Upd [] w wz))
          case atStart => exact ⟨us, R, hid (.inl rfl), hid (by rw [HQ.out]), HA, by rw [← HQ.out]; exact HO, HR, XU, HB, HU⟩
          case round =>
            clear HA HO HR XU HB HU
            obtain ⟨us', R', HRR, Hd3, HA, HO, HR, XU, HB, HU⟩ := hrel
            obtain ⟨a6, k6, e6, -⟩ := own_view HO.out
            subst e6
            obtain ⟨q', hq'⟩ : ∃ q', q' = R'.length := ⟨_, rfl⟩
            rw [← hq'] at HO Hd3 ⊢
            have HQ' := hid hq'
            clear hq'
            have q41 : q' ≤ 41 := by
              have h1 := QL.out
              have h2 := HQ.out
              have h3 := HQ'.out
              rcases HRR.out with e | e
              · rw [e] at h3; omega
              · rw [e] at h3
                unfold room at h3
                split at h3
                · omega
                · simp at h3; omega
            have lv41 : lv ≤ 40 := by have h1 := LQ.out; have h2 := QL.out; have h3 := HQ.out; omega
            have hA5 := HA.out.val (z := i) (v := .int .i64 (lv : Int)) hin'.out (by
              unfold atF
              rw [if_neg (Nat.lt_irrefl _), if_pos rfl])
            by_cases hql : q' ≤ lv
            · have hql' : (q' : Int) ≤ (lv : Int) := by omega
              have SZ := hid (show B ≤ wr.heap.size by have := HU.out.size; have := HBS.out; omega)
              go_wp2_with (first | (at_builtin; refine wpList_app (W := wr) rfl (.tmp 58) (.tmp 59) 35 rfl B 24 i24 _ 1 24 Try.underlying35 HI24.out HA24.out HB24.out HC24.out rfl (by decide) (.slice a6 q' k6) q' us' rfl HO.out [.slice none 0 0] 24 (by first | rfl | (rw [World.size_alloc]; rfl)) rfl (by intro u hu; simp at hu; subst hu; rfl) (by omega) (by omega) SZ.out ?_; intro v5 w5 ho5 hu5 hl5; have O5 := hid ho5; have U5 := hid hu5; clear ho5 hu5 hl5))
              go_roundg (lv + 1 - (q' + 1))
              case measure => have := Hd3.out; omega
              case rel =>
                have eR : R' = R := by
                  rcases HRR.out with e | e
                  · exact e
                  · have h1 := room_lt R lv LQ.out
                    have h2 := HQ'.out
                    rw [e] at h2; omega
                have eN : R' ++ [[]] = room R lv := by
                  unfold room
                  rw [if_neg (by rw [← eR, ← HQ'.out]; omega), eR]
                have hXn : X ∉ (Value.slice a6 q' k6).ownBlock.toList := fun hs => own_cells_ne HO.out HB.out (by decide) X (by simpa using hs) rfl
                refine ⟨us' ++ [.slice none 0 0], R' ++ [[]], hid (.inr eN), hid (by rw [List.length_append, ← HQ'.out]; rfl), hid (HA.out.own HO.out (by decide) U5.out), hid (by rw [List.length_append, ← HQ'.out]; exact O5.out), hid (HR.out.row HO.out (by decide) U5.out).push, hid (fun j k hk => ?_), hid (U5.out.blk HB.out hXn), hid (HU.out.trans U5.out (fun t ht => .inr (by rw [← HBS.out]; exact own_ge HO.out t (by simpa using ht))))⟩
                rw [getD_snoc] at hk
                by_cases cj : j = us'.length
                · rw [if_pos cj] at hk; cases hk
                · rw [if_neg cj] at hk; exact XU.out j k hk
            · have hql' : ¬ (q' : Int) ≤ (lv : Int) := by omega
              have eR : R' = room R lv := by
                rcases HRR.out with e | e
                · have h2 := HQ'.out
                  rw [e] at h2 ⊢
                  unfold room
                  rw [if_pos (by omega)]
                · exact e
              have ER := hid eR
              have hlq : lv < R'.length := by rw [← HQ'.out]; omega
              have HLQ := hid hlq
              obtain ⟨uv, huv⟩ : ∃ uv, uv = us'.getD lv undef := ⟨_, rfl⟩
              have HUV := hid huv
              obtain ⟨Lv, hLv⟩ : ∃ Lv, Lv = R'.getD lv [] := ⟨_, rfl⟩
              have HLVV := hid hLv
              have hov := HR.out.own lv hlq
              rw [← huv, ← hLv] at hov
              obtain ⟨av, kv, ev, -⟩ := own_view hov
              have hu1 : us'[lv]? = some uv := by rw [huv, List.getD_eq_getElem?_getD, List.getElem?_eq_getElem (by rw [HR.out.len]; exact hlq)]; rfl
              obtain ⟨a6', k6', e6', -, -, hc6⟩ := own_view HO.out
              simp only [Value.slice.injEq, true_and] at e6'
              obtain ⟨ea6, -⟩ := e6'
              obtain ⟨G, eG, BG, hG, hGf⟩ := hc6 lv uv hu1
              subst ea6
              subst eG
              clear hc6 hu1
              have LvL := hid (show Lv.length ≤ 40 by
                have h1 : R'.getD lv [] = R.getD lv [] := by rw [eR, room_get]
                have h2 := HUR.out.few (by rw [HP.out]; exact good_pairs depS _) lv
                rw [hLv, h1]; omega)
              obtain ⟨nv, hnv⟩ : ∃ nv, nv = Lv.length := ⟨_, rfl⟩
              have HNV := hid hnv
              rw [← hnv] at ev
              subst ev
              clear huv hLv eR hlq hnv
              have HOV := hid hov
              have x0 : wr.cell? ⟨X, 0, none⟩ = some (.int .i64 (s0 : Int)) := K.blk_cell HB.out 0
              have x1 : wr.cell? ⟨X, 1, none⟩ = some (.int .i64 (s1 : Int)) := K.blk_cell HB.out 1
              have x2 : wr.cell? ⟨X, 2, none⟩ = some (.int .i64 (s2 : Int)) := K.blk_cell HB.out 2
              have hlq2 : lv < q' := by omega
              have hin2 : i < n := hin'.out
              clear hov
              go_upto_region 17 with (fail)
              refine J.J_begin (fun wz => wz.cell? ⟨A, i, none⟩ = some (.int .i64 (lv : Int)) ∧ wz.cell? ⟨G, lv, none⟩ = some (.slice av nv kv) ∧ wz.cell? ⟨X, 0, none⟩ = some (.int .i64 (s0 : Int)) ∧ wz.cell? ⟨X, 1, none⟩ = some (.int .i64 (s1 : Int)) ∧ wz.cell? ⟨X, 2, none⟩ = some (.int .i64 (s2 : Int))) 16 (by kernel_rfl) ⟨by kernel_rfl, by kernel_rfl, by kernel_rfl⟩ ⟨hA5, hG, x0, x1, x2⟩ (fun LAST HS => ?_)
              refine J.J_take (i := 0) (v := ?_) LAST (by rfl) (by decide) (by kernel_rfl) (by kernel_rfl) (by intro _ _ _ h; exact h) HS (Or.inl ⟨by rfl, ?_⟩) ?_
              rotate_left
              · intro w hSw; (try dsimp only at hSw); go_simp; try with_reducible rfl
              try simp only [Act.put, List.setIfInBounds_toArray, List.set_cons_zero, List.set_cons_succ]
              refine J.J_take (i := 1) (v := ?_) LAST (by rfl) (by decide) (by kernel_rfl) (by kernel_rfl) (by intro _ _ _ h; exact h) HS (Or.inl ⟨by rfl, ?_⟩) ?_
              rotate_left
              · intro w hSw; (try dsimp only at hSw); go_simp; try with_reducible rfl
              try simp only [Act.put, List.setIfInBounds_toArray, List.set_cons_zero, List.set_cons_succ]
              refine J.J_take (i := 2) (v := ?_) LAST (by rfl) (by decide) (by kernel_rfl) (by kernel_rfl) (by intro _ _ _ h; exact h) HS (Or.inl ⟨by rfl, ?_⟩) ?_
              rotate_left
              · intro w hSw; (try dsimp only at hSw); go_simp; try with_reducible rfl
              try simp only [Act.put, List.setIfInBounds_toArray, List.set_cons_zero, List.set_cons_succ]
              refine J.J_take (i := 3) (v := ?_) LAST (by rfl) (by decide) (by kernel_rfl) (by kernel_rfl) (by intro _ _ _ h; exact h) HS (Or.inl ⟨by rfl, ?_⟩) ?_
              rotate_left
              · intro w hSw; (try dsimp only at hSw); go_simp; try with_reducible rfl
              try simp only [Act.put, List.setIfInBounds_toArray, List.set_cons_zero, List.set_cons_succ]
              refine J.J_take (i := 4) (v := ?_) LAST (by rfl) (by decide) (by kernel_rfl) (by kernel_rfl) (by intro _ _ _ h; exact h) HS (Or.inl ⟨by rfl, ?_⟩) ?_
              rotate_left
              · intro w hSw; (try dsimp only at hSw); go_simp; try with_reducible rfl
              try simp only [Act.put, List.setIfInBounds_toArray, List.set_cons_zero, List.set_cons_succ]
              refine J.J_take (i := 5) (v := ?_) LAST (by rfl) (by decide) (by kernel_rfl) (by kernel_rfl) (by intro _ _ _ h; exact h) HS (Or.inl ⟨by rfl, ?_⟩) ?_
              rotate_left
              · intro w hSw; (try dsimp only at hSw); go_simp; try with_reducible rfl
              try simp only [Act.put, List.setIfInBounds_toArray, List.set_cons_zero, List.set_cons_succ]
              refine J.J_take (i := 6) (v := ?_) LAST (by rfl) (by decide) (by kernel_rfl) (by kernel_rfl) (by intro _ _ _ h; exact h) HS (Or.inl ⟨by rfl, ?_⟩) ?_
              rotate_left
              · intro w hSw; (try dsimp only at hSw); go_simp; try with_reducible rfl
              try simp only [Act.put, List.setIfInBounds_toArray, List.set_cons_zero, List.set_cons_succ]
              refine J.J_take (i := 7) (v := ?_) LAST (by rfl) (by decide) (by kernel_rfl) (by kernel_rfl) (by intro _ _ _ h; exact h) HS (Or.inl ⟨by rfl, ?_⟩) ?_
              rotate_left
              · intro w hSw; (try dsimp only at hSw); go_simp; try with_reducible rfl
              try simp only [Act.put, List.setIfInBounds_toArray, List.set_cons_zero, List.set_cons_succ]
              refine J.J_take (i := 8) (v := ?_) LAST (by rfl) (by decide) (by kernel_rfl) (by kernel_rfl) (by intro _ _ _ h; exact h) HS (Or.inl ⟨by rfl, ?_⟩) ?_
              rotate_left
              · intro w hSw; (try dsimp only at hSw); go_simp; try with_reducible rfl
              try simp only [Act.put, List.setIfInBounds_toArray, List.set_cons_zero, List.set_cons_succ]
              refine J.J_take (i := 9) (v := ?_) LAST (by rfl) (by decide) (by kernel_rfl) (by kernel_rfl) (by intro _ _ _ h; exact h) HS (Or.inl ⟨by rfl, ?_⟩) ?_
              rotate_left
              · intro w hSw; (try dsimp only at hSw); go_simp; try with_reducible rfl
              try simp only [Act.put, List.setIfInBounds_toArray, List.set_cons_zero, List.set_cons_succ]
              refine J.J_take (i := 10) (v := ?_) LAST (by rfl) (by decide) (by kernel_rfl) (by kernel_rfl) (by intro _ _ _ h; exact h) HS (Or.inl ⟨by rfl, ?_⟩) ?_
              rotate_left
              · intro w hSw; (try dsimp only at hSw); go_simp; try with_reducible rfl
              try simp only [Act.put, List.setIfInBounds_toArray, List.set_cons_zero, List.set_cons_succ]
              refine J.J_take (i := 11) (v := ?_) LAST (by rfl) (by decide) (by kernel_rfl) (by kernel_rfl) (by intro _ _ _ h; exact h) HS (Or.inl ⟨by rfl, ?_⟩) ?_
              rotate_left
              · intro w hSw; (try dsimp only at hSw); go_simp; try with_reducible rfl
              try simp only [Act.put, List.setIfInBounds_toArray, List.set_cons_zero, List.set_cons_succ]
              refine J.J_take (i := 12) (v := ?_) LAST (by rfl) (by decide) (by kernel_rfl) (by kernel_rfl) (by intro _ _ _ h; exact h) HS (Or.inl ⟨by rfl, ?_⟩) ?_
              rotate_left
              · intro w hSw; (try dsimp only at hSw); go_simp; try with_reducible rfl
              try simp only [Act.put, List.setIfInBounds_toArray, List.set_cons_zero, List.set_cons_succ]
              refine J.J_one (i := 13) (by rfl) (by decide) (by kernel_rfl) (fun KK hK => ?_)
              go_simp
              have VA := hid (show Upd [] wr ((wr.alloc (.cells #[.int .i64 (s0 : Int), .int .i64 (s1 : Int), .int .i64 (s2 : Int)] 29)).drew) from ((Upd.refl [] wr).alloc _).drew)
              refine hK.out _ _ ⟨VA.out.cell hA5 (by simp), VA.out.cell hG (by simp), VA.out.cell x0 (by simp), VA.out.cell x1 (by simp), VA.out.cell x2 (by simp)⟩ ?_
              clear hK KK HS
              try simp only [List.setIfInBounds_toArray]
              have OV := hid (own_new HOV.out VA.out)
              have nv40 : nv ≤ 40 := by have h1 := LvL.out; have h2 := HNV.out; omega
              refine J.J_one (i := 14) (by rfl) (by decide) (by kernel_rfl) (fun KK hK => ?_)
              refine J.step_app rfl (.tmp 72) (.tmp 74) 24 rfl B 29 i29 _ 3 24 Try.underlying24 HI29.out HA29.out HB29.out HC29.out rfl (by decide) (.slice av nv kv) nv (cellsOf Lv) (by rfl) (by have h := OV.out; unfold StepsOf at h; rw [← HNV.out] at h; exact h) ⟨wr.heap.size, 0, none⟩ 1 1 [.int .i64 (s0 : Int), .int .i64 (s1 : Int), .int .i64 (s2 : Int)] (by rfl) rfl (fun j u hj => by rw [addz]; refine (K.blk_cell (K.blk_new wr _) j).trans ?_; simpa using hj) (by intro u hu; simp at hu; rcases hu with rfl | rfl | rfl <;> rfl) (by unfold maxLen; omega) (by omega) (by have := HU.out.size; have := VA.out.size; have := HBS.out; omega) ?_
              intro v5 w5 ho5 hu5 hl5
              obtain ⟨a5, k5, e5, -⟩ := own_view ho5
              subst e5
              rw [← SC.out, ← cellsOf_snoc] at ho5
              have O5 := hid ho5
              have U5 := hid (show Upd (Value.slice av nv kv).ownBlock.toList wr w5 from (VA.out.mono (fun _ h => by cases h)).trans hu5 (fun t ht => .inl ht))
              have L5 := hid (show ∀ k, (Value.slice a5 (nv + 1) k5).ownBlock = some k → (Value.slice av nv kv).ownBlock = some k ∨ wr.heap.size ≤ k from fun k hk => (hl5 k hk).imp id (fun h => by have := VA.out.size; omega))
              clear ho5 hu5 hl5
              have HOV' := HOV.out
              unfold StepsOf at HOV'
              rw [← HNV.out] at HOV'
              have nA : A ∉ (Value.slice av nv kv).ownBlock.toList := fun hs => by
                obtain ⟨cs, hb, _⟩ := HA.out
                exact own_cells_ne HOV' hb (by decide) A (by simpa using hs) rfl
              have nG : G ∉ (Value.slice av nv kv).ownBlock.toList := fun hs => by
                obtain ⟨cs, hb⟩ := own_block HO.out G rfl
                exact own_cells_ne HOV' hb (by decide) G (by simpa using hs) rfl
              have nX : X ∉ (Value.slice av nv kv).ownBlock.toList := fun hs => by
                have := XU.out lv X (by rw [← HUV.out]; simpa using hs)
                omega
              have HS5 : w5.cell? ⟨A, i, none⟩ = some (.int .i64 (lv : Int)) ∧ w5.cell? ⟨G, lv, none⟩ = some (.slice av nv kv) ∧ w5.cell? ⟨X, 0, none⟩ = some (.int .i64 (s0 : Int)) ∧ w5.cell? ⟨X, 1, none⟩ = some (.int .i64 (s1 : Int)) ∧ w5.cell? ⟨X, 2, none⟩ = some (.int .i64 (s2 : Int)) := ⟨U5.out.cell hA5 nA, U5.out.cell hG nG, U5.out.cell x0 nX, U5.out.cell x1 nX, U5.out.cell x2 nX⟩
              refine hK.out _ _ HS5 ?_
              clear hK KK hA5 hG x0 x1 x2 hGf
              try simp only [Act.put, List.setIfInBounds_toArray, List.set_cons_zero, List.set_cons_succ]
              have A5 := hid (HA.out.upd U5.out nA)
              have OO5 := hid (own_upd HO.out U5.out (fun k hk hs => by cases hk; exact nG hs))
              have R5 := hid (HR.out.set HLQ.out (v' := .slice a5 (nv + 1) k5) (L := Lv ++ [s]) (by rw [← HUV.out]; exact U5.out) (by unfold StepsOf; rw [List.length_append, ← HNV.out]; exact O5.out) (by rw [← HUV.out]; exact L5.out))
              have UU5 := hid (HU.out.trans U5.out (fun t ht => .inr (by rw [← HBS.out]; exact own_ge HOV' t (by simpa using ht))))
              have UL := hid HR.out.len
              clear HA HO HR XU HB HU HOV' OV nA nG nX
              refine J.J_take (i := 15) (v := ?_) LAST (by rfl) (by decide) (by kernel_rfl) (by kernel_rfl) (by intro _ _ _ h; exact h) HS5 (Or.inl ⟨by rfl, ?_⟩) ?_
              rotate_left
              · intro w hSw; (try dsimp only at hSw); go_simp; try with_reducible rfl
              try simp only [Act.put, List.setIfInBounds_toArray, List.set_cons_zero, List.set_cons_succ]
              refine J.J_last (by rfl) (by kernel_rfl) (by kernel_rfl) ?_
              clear LAST
              have cz := HS5.2.1
              have fz : w5.frozen? ⟨G, lv, none⟩ = false := by obtain ⟨cs, hb⟩ := own_block OO5.out G rfl; exact K.blk_frozen hb lv
              clear HS5
              go_simp
              go_wp2_with fail
              go_roundg (n - (i + 1))
              case measure => have := Hd.out; omega
              case rel =>
                have uG : Upd [G] w5 (w5.setCell ⟨G, lv, none⟩ (.slice a5 (nv + 1) k5)) := (Upd.refl [G] w5).setCell (.inl (by simp)) _
                obtain ⟨cG, hcG⟩ := own_block OO5.out G rfl
                have hr5 := row_set OO5.out (i := lv) (by rw [UL.out]; exact HLQ.out) (.slice a5 (nv + 1) k5)
                have eP : pairs depS (xs.take (i + 1)) = P ++ [(s, lv)] := by
                  rw [pairs_step xs i hix, ← HP.out, ← HS.out, ← HLV.out]
                have hu2 := HUR.out.step s lv LQ.out
                have hG29 : ∀ k cur, w5.heap[k]? = some (.cells cur 29 (0, 0)) → k ∉ [G] := fun k cur hk hs => by
                  simp only [List.mem_singleton] at hs
                  subst hs
                  rw [hcG] at hk
                  simp at hk
                refine ⟨i + 1, us'.set lv (.slice a5 (nv + 1) k5), R'.set lv (Lv ++ [s]), by go_num, by omega, hid (by omega), hid ?_, hid ?_, hid ?_, hid ?_, hid ?_⟩
                · rw [eP]
                  refine (A5.out.upd uG (fun hs => ?_)).congr (fun z _ => by rw [atF_next P s lv i z HPL.out])
                  simp only [List.mem_singleton] at hs
                  obtain ⟨cs, hb, _⟩ := A5.out
                  rw [hs, hcG] at hb
                  simp at hb
                · rw [List.length_set, ← HQ'.out]
                  exact hr5
                · exact R5.out.upd uG hG29
                · rw [eP, HLVV.out, ER.out]
                  exact hu2
                · exact UU5.out.trans uG (fun t ht => .inr (by simp at ht; subst ht; have := BG; have := HBS.out; omega))
    · have ei : i = n := by omega
      have hni : ¬ (i : Int) < (n : Int) := by omega
      rw [ei, HN.out, List.take_length] at HUR
      clear ei hin hi Hd HA
      have q40 : q ≤ 40 := by have h := ur_len HUR.out; have := HN.out; have := HQ.out; omega
      go_wp2_with fail
      go_loopg [80] q (fun d v80 wz => ∃ (k : Nat) (R' : List (List St)), v80 = .int .i64 (k : Int) ∧ k ≤ q ∧ Hid (k + d = q) ∧ Hid (R'.length = q) ∧ Hid (∀ j, j < k → (R'.getD j []).Perm (R.getD j []) ∧ (R'.getD j []).Pairwise (fun a b => whoS a ≤ whoS b)) ∧ Hid (∀ j, k ≤ j → R'.getD j [] = R.getD j []) ∧ Hid (wz.ownsRow B 24 1 (.slice a6 q k6) q us) ∧ Hid (Rnd wz B us R') ∧ Hid (Upd [] w wz))
      case atStart => exact ⟨0, R, rfl, by omega, hid (by omega), hid HQ.out.symm, hid (fun j hj => by omega), hid (fun j _ => rfl), HO, HR, HU⟩
      case round =>
        clear HO HR HU
        obtain ⟨k, R', rfl, hk, Hk, HL, HS1, HS2, HO, HR, HU⟩ := hrel
        by_cases hkq : k < q
        · have hk' : (k : Int) < (q : Int) := by omega
          obtain ⟨uv, huv⟩ : ∃ uv, uv = us.getD k undef := ⟨_, rfl⟩
          have HUV := hid huv
          have hkR : k < R'.length := by rw [HL.out]; exact hkq
          have hov := HR.out.own k hkR
          rw [HS2.out k (Nat.le_refl _), ← huv] at hov
          have hu1 : us[k]? = some uv := by rw [huv, List.getD_eq_getElem?_getD, List.getElem?_eq_getElem (by rw [HR.out.len]; exact hkR)]; rfl
          obtain ⟨a6', k6', e6', -, -, hc6⟩ := own_view HO.out
          simp only [Value.slice.injEq, true_and] at e6'
          obtain ⟨ea6, -⟩ := e6'
          obtain ⟨G, eG, -, hG, -⟩ := hc6 k uv hu1
          subst ea6
          subst eG
          obtain ⟨Lv, hLv⟩ : ∃ Lv, Lv = R.getD k [] := ⟨_, rfl⟩
          rw [← hLv] at hov
          have HLV := hid hLv
          have ST := hid (sort_steps hov (by rw [hLv]; exact HUR.out.ne k (by rw [← HQ.out]; exact hkq)) (by rw [hLv]; have := HUR.out.few (good_pairs depS xs) k; omega))
          have HOV := hid hov
          have HKR := hid hkR
          obtain ⟨av, kv, ev, -⟩ := own_view hov
          subst ev
          clear hu1 hc6 huv hLv hov hkR
          go_wp2_with fail
          refine ST.out.mono ?_
          rintro e w5 ⟨rfl, ⟨L', ho5, hp5, hs5⟩, hu5⟩
          have O5 := hid ho5
          have P5 := hid hp5
          have S5 := hid hs5
          have U5 := hid hu5
          clear ho5 hp5 hs5 hu5 ST
          go_wp2_with fail
          go_roundg (q - (k + 1))
          case measure => have := Hk.out; omega
          case rel =>
            have eset : us.set k (.slice av Lv.length kv) = us := by
              refine List.ext_getElem? (fun j => ?_)
              rw [List.getElem?_set]
              by_cases c : k = j
              · subst c
                have hkl : k < us.length := by rw [HR.out.len]; exact HKR.out
                rw [if_pos rfl, if_pos hkl, HUV.out, List.getD_eq_getElem?_getD, List.getElem?_eq_getElem hkl]; rfl
              · rw [if_neg c]
            have hr5 := HR.out.set HKR.out (v' := .slice av Lv.length kv) (L := L') (by rw [← HUV.out]; exact U5.out) O5.out (by rw [← HUV.out]; exact fun k hk => .inl hk)
            rw [eset] at hr5
            have oo5 := own_upd HO.out U5.out (fun k hk hs => own_own_ne HO.out HOV.out (by decide) k hk k (by simpa using hs) rfl)
            refine ⟨k + 1, R'.set k L', by go_num, by omega, hid (by omega), hid (by rw [List.length_set]; exact HL.out), hid (fun j hj => ?_), hid (fun j hj => ?_), hid oo5, hid hr5, hid (HU.out.trans U5.out (fun t ht => .inr (by rw [← HBS.out]; exact own_ge HOV.out t (by simpa using ht))))⟩
            · rw [getD_set _ _ _ _ _ HKR.out]
              by_cases c : k = j
              · subst c
                rw [if_pos rfl, ← HLV.out]
                exact ⟨P5.out, S5.out⟩
              · rw [if_neg c]
                exact HS1.out j (by omega)
            · rw [getD_set _ _ _ _ _ HKR.out, if_neg (by omega)]
              exact HS2.out j (by omega)
        · have hk' : ¬ (k : Int) < (q : Int) := by omega
          have ek : k = q := by omega
          go_wp2_with fail
          go_ret2
          refine ⟨_, rfl, ⟨R', ⟨us, by rw [HL.out]; exact HO.out, HR.out⟩, HUR.out.sorted (good_pairs depS xs) (by rw [HL.out]; exact HQ.out) (fun j hj => HS1.out j (by rw [ek, HQ.out]; exact hj))⟩, HU.out⟩
end Go.Proofs.Ytnikkakeiajmgaa.Pa
