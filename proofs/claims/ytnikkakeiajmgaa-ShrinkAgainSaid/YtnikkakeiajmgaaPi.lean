/- The walks of slices.Equal at steps, of part.Same's closure and of slices.EqualFunc at rounds. -/
import Derived.Test.YtnikkakeiajmgaaPh
import Derived.Laws.StructEq
namespace Go.Proofs.Ytnikkakeiajmgaa.Pa
open Go Go.RowKit Go.Proofs.Ytnikkakeiajmgaa Go.Proofs.Ytnikkakeiajmgaa.K Go.Proofs.Ytnikkakeiajmgaa.M Go.Proofs.Ytnikkakeiajmgaa.O Go.Proofs.Ytnikkakeiajmgaa.R Go.Proofs.Ytnikkakeiajmgaa.Pt

theorem held29 : Try.prog.stoodInHeld 29 = false := by kernel_rfl
theorem fields29 : Try.prog.fieldsOf 29 = #[{ name := "Who", type := 3, offset := 0, embedded := false, tag := "", pkgPath := "", byteOffset := 0 }, { name := "Reads", type := 3, offset := 1, embedded := false, tag := "", pkgPath := "", byteOffset := 8 }, { name := "Writes", type := 3, offset := 2, embedded := false, tag := "", pkgPath := "", byteOffset := 16 }] := by
  unfold Program.fieldsOf; rw [Try.underlying29]
theorem struct29 : Try.prog.underlying 29 = some (.struct (Try.prog.fieldsOf 29)) := by rw [fields29]; exact Try.underlying29
theorem neq_st (a b c a' b' c' : Int) (w : World) : (binOp .neq 29 (.agg #[.int .i64 a, .int .i64 b, .int .i64 c]) (.agg #[.int .i64 a', .int .i64 b', .int .i64 c'])).run Try.prog w = .ok (.bool (!(a == a' && (b == b' && c == c')))) w := by
  have z3 : ∀ w, (Go.sizeOf 3).run Try.prog w = .ok 1 w := Try.sizeOf3
  have a3 : ∀ w, (isAgg 3).run Try.prog w = .ok false w := Try.isAgg3
  rw [run_neq_struct, run_equalIn_struct w 9999 29 _ _ struct29 held29, fields29]
  have q : ∀ (x y : Int) (w : World), (Op.equalIn 9999 3 (.int .i64 x) (.int .i64 y)).run Try.prog w = .ok (x == y) w := fun x y w => run_equalIn_int w 9998 3 .i64 .i64 x y Try.underlying3
  simp [Op.eqFields, part, Sem.run_bind, a3, q, Result.andThen]
  cases h1 : (a == a') <;> cases h2 : (b == b') <;> cases h3 : (c == c') <;> simp_all
theorem st_eq (s t : St) : (((s.who.val : Nat) : Int) == ((t.who.val : Nat) : Int) && (((s.rd.val : Nat) : Int) == ((t.rd.val : Nat) : Int) && ((s.wr.val : Nat) : Int) == ((t.wr.val : Nat) : Int))) = decide (s = t) := by
  obtain ⟨a, b, c⟩ := s
  obtain ⟨a', b', c'⟩ := t
  rw [Bool.eq_iff_iff]
  simp only [Bool.and_eq_true, beq_iff_eq, decide_eq_true_eq, St.mk.injEq, Fin.ext_iff]
  omega
theorem list_ne {α : Type} {l m : List α} {i : Nat} (h1 : i < l.length) (h2 : i < m.length) (h : l[i] ≠ m[i]) : l ≠ m := fun e => by subst e; exact h rfl
theorem list_eq {α : Type} {l m : List α} (hl : l.length = m.length) (h : ∀ j (h1 : j < l.length) (h2 : j < m.length), l[j] = m[j]) : l = m := List.ext_getElem hl h

set_option maxHeartbeats 8000000 in
set_option maxRecDepth 100000 in
theorem equal_st (a b : Option Addr) (n m c d : Nat) (l l' : List St) (w : World) (ha : StepAt w a l) (hb : StepAt w b l') (hn : n = l.length) (hm : m = l'.length) (hn9 : n ≤ 1000) (hm9 : m ≤ 1000) :
    Calls Try.prog 22 #[.slice a n c, .slice b m d] w fun e w' => e = .returned (.bool (decide (l = l'))) ∧ Upd [] w w' := by
  have HA := hid ha
  have HB := hid hb
  have HN := hid hn
  have HM := hid hm
  clear ha hb hn hm
  by_cases hnm : n = m
  · subst hnm
    go_enter Try.func22, Try.ntmps22
    go_wp2_with fail
    go_loopg [13] n (fun d v13 wr => ∃ (i : Nat), v13 = .int .i64 (i : Int) ∧ i ≤ n ∧ Hid (i + d = n) ∧ Hid (∀ j (h1 : j < l.length) (h2 : j < l'.length), j < i → l[j] = l'[j]) ∧ Hid (Upd [] w wr))
    case atStart => exact ⟨0, rfl, by omega, hid (by omega), hid (fun j _ _ h => by omega), hid (Upd.refl [] w)⟩
    case round =>
      obtain ⟨i, rfl, hin, Hi, HE, HU⟩ := hrel
      by_cases hi : i < n
      · have hi' : (i : Int) < (n : Int) := by omega
        have hl1 : i < l.length := by rw [← HN.out]; exact hi
        have hl2 : i < l'.length := by rw [← HM.out]; exact hi
        obtain ⟨g, rfl, c0, c1, c2⟩ := (HA.out.upd HU.out) i hl1
        obtain ⟨g', rfl, d0, d1, d2⟩ := (HB.out.upd HU.out) i hl2
        obtain ⟨s, hs⟩ : ∃ s : St, s = l[i]'hl1 := ⟨_, rfl⟩
        obtain ⟨t, ht⟩ : ∃ t : St, t = l'[i]'hl2 := ⟨_, rfl⟩
        rw [← hs] at c0 c1 c2
        rw [← ht] at d0 d1 d2
        have hne : ∀ w, (binOp .neq 29 (.agg #[.int .i64 ((s.who.val : Nat) : Int), .int .i64 ((s.rd.val : Nat) : Int), .int .i64 ((s.wr.val : Nat) : Int)]) (.agg #[.int .i64 ((t.who.val : Nat) : Int), .int .i64 ((t.rd.val : Nat) : Int), .int .i64 ((t.wr.val : Nat) : Int)])).run Try.prog w = .ok (.bool (!decide (s = t))) w := fun w => by
          rw [neq_st, st_eq]
        obtain ⟨q, hq⟩ : ∃ q, q = decide (s = t) := ⟨_, rfl⟩
        rw [← hq] at hne
        rw [hs, ht] at hq
        have HQ := hid hq
        have HL1 := hid hl1
        have HL2 := hid hl2
        clear hq hs ht
        obtain ⟨s0, hs0⟩ : ∃ s0 : Nat, s0 = s.who.val := ⟨_, rfl⟩
        obtain ⟨s1, hs1⟩ : ∃ s1 : Nat, s1 = s.rd.val := ⟨_, rfl⟩
        obtain ⟨s2, hs2⟩ : ∃ s2 : Nat, s2 = s.wr.val := ⟨_, rfl⟩
        obtain ⟨t0, ht0⟩ : ∃ t0 : Nat, t0 = t.who.val := ⟨_, rfl⟩
        obtain ⟨t1, ht1⟩ : ∃ t1 : Nat, t1 = t.rd.val := ⟨_, rfl⟩
        obtain ⟨t2, ht2⟩ : ∃ t2 : Nat, t2 = t.wr.val := ⟨_, rfl⟩
        rw [← hs0] at c0 hne
        rw [← hs1] at c1 hne
        rw [← hs2] at c2 hne
        rw [← ht0] at d0 hne
        rw [← ht1] at d1 hne
        rw [← ht2] at d2 hne
        clear hs0 hs1 hs2 ht0 ht1 ht2
        cases q with
        | false =>
          simp only [Bool.not_false] at hne
          go_wp2_with fail
          go_quiet (fail)
          go_wp2_with fail
          go_ret
          refine ⟨?_, HU.out.drewN nq⟩
          rw [decide_eq_false (list_ne HL1.out HL2.out (of_decide_eq_false HQ.out.symm))]
          rfl
        | true =>
          simp only [Bool.not_true] at hne
          go_wp2_with fail
          go_quiet (fail)
          go_wp2_with fail
          go_roundg (n - (i + 1))
          case measure => have := Hi.out; omega
          case rel =>
            refine ⟨i + 1, by go_num, by omega, hid (by omega), hid (fun j h1 h2 hj => ?_), hid (HU.out.drewN nq)⟩
            by_cases e : j = i
            · subst e; exact of_decide_eq_true HQ.out.symm
            · exact HE.out j h1 h2 (by omega)
      · obtain rfl : i = n := by omega
        go_wp2_with fail
        go_ret
        refine ⟨?_, HU.out⟩
        rw [decide_eq_true (list_eq (by rw [← HN.out, ← HM.out]) (fun j h1 h2 => HE.out j h1 h2 (by rw [HN.out]; exact h1)))]
        rfl
  · have hb : ((n : Int) == (m : Int)) = false := by rw [beq_eq_false_iff_ne]; omega
    go_enter Try.func22, Try.ntmps22
    go_wp2_with fail
    go_ret
    refine ⟨?_, Upd.refl [] w⟩
    rw [decide_eq_false (fun e => hnm (by rw [HN.out, HM.out, e]))]
    rfl

set_option maxHeartbeats 4000000 in
set_option maxRecDepth 100000 in
theorem closure37 (a b : Option Addr) (n m c d : Nat) (l l' : List St) (w : World) (ha : StepAt w a l) (hb : StepAt w b l') (hn : n = l.length) (hm : m = l'.length) (hn9 : n ≤ 1000) (hm9 : m ≤ 1000) :
    Calls Try.prog 37 #[.slice a n c, .slice b m d] w fun e w' => e = .returned (.bool (decide (l = l'))) ∧ Upd [] w w' := by
  have K := hid (equal_st a b n m c d l l' w ha hb hn hm hn9 hm9)
  clear ha hb hn hm
  go_enter Try.func37, Try.ntmps37
  go_wp2_with fail
  refine K.out.mono ?_
  rintro e w1 ⟨rfl, hu⟩
  have U := hid hu
  clear hu
  go_wp2_with fail
  go_ret
  exact ⟨rfl, U.out⟩

theorem OutAt.new {w w' : World} {B : Nat} {v : Value} {R : List (List St)} (h : OutAt w B v R) (u : Upd [] w w') : OutAt w' B v R := by
  obtain ⟨us, ho, hr⟩ := h
  exact ⟨us, own_new ho u, hr.new u⟩
theorem OutAt.row {w : World} {B : Nat} {v : Value} {R : List (List St)} (h : OutAt w B v R) (i : Nat) (hi : i < R.length) : ∃ G k, v = .slice (some ⟨G, 0, none⟩) R.length k ∧ ∃ ai ki, w.cell? ⟨G, i, none⟩ = some (.slice ai (R[i]).length ki) ∧ StepsOf w B (.slice ai (R[i]).length ki) R[i] ∧ StepAt w ai R[i] := by
  obtain ⟨us, ho, hr⟩ := h
  obtain ⟨a, k, e, -, -, hc⟩ := own_view ho
  have hso := hr.own i hi
  have eR : R.getD i [] = R[i] := by rw [List.getD_eq_getElem?_getD, List.getElem?_eq_getElem hi]; rfl
  rw [eR] at hso
  obtain ⟨ai, ki, ei, -⟩ := own_view hso
  have hu1 : us[i]? = some (us.getD i undef) := by rw [List.getD_eq_getElem?_getD, List.getElem?_eq_getElem (by rw [hr.len]; exact hi)]; rfl
  obtain ⟨G, eG, _, hG, _⟩ := hc i _ hu1
  subst eG
  rw [ei] at hso hG
  exact ⟨G, k, e, ai, ki, hG, hso, hso.at⟩
theorem OutAt.shape {w : World} {B : Nat} {v : Value} {R : List (List St)} (h : OutAt w B v R) : ∃ a k, v = .slice a R.length k := by
  obtain ⟨us, ho, hr⟩ := h
  obtain ⟨a, k, e, -, -, hc⟩ := own_view ho
  exact ⟨a, k, e⟩

set_option maxHeartbeats 8000000 in
set_option maxRecDepth 100000 in
theorem eqf_any (B B' : Nat) (v v' : Value) (R R' : List (List St)) (w : World) (hv : OutAt w B v R) (hv' : OutAt w B' v' R') (h9 : R.length ≤ 1000) (h9' : R'.length ≤ 1000) (hf : ∀ x ∈ R, x.length ≤ 1000) (hf' : ∀ x ∈ R', x.length ≤ 1000) :
    Calls Try.prog 36 #[v, v', .func (.func 37) #[] #[]] w fun e w' => e = .returned (.bool (decide (R = R'))) ∧ Upd [] w w' := by
  obtain ⟨a, k, rfl⟩ := hv.shape
  obtain ⟨a', k', rfl⟩ := hv'.shape
  have HV := hid hv
  have HV' := hid hv'
  have HF := hid hf
  have HF' := hid hf'
  clear hv hv' hf hf'
  obtain ⟨n, hn⟩ : ∃ n, n = R.length := ⟨_, rfl⟩
  obtain ⟨m, hm⟩ : ∃ m, m = R'.length := ⟨_, rfl⟩
  rw [← hn] at h9 ⊢
  rw [← hm] at h9' ⊢
  have HN := hid hn
  have HM := hid hm
  clear hn hm
  by_cases hnm : n = m
  · subst hnm
    go_enter Try.func36, Try.ntmps36
    go_wp2_with fail
    go_loopg [17] n (fun d v17 wr => ∃ (i : Nat), v17 = .int .i64 (i : Int) ∧ i ≤ n ∧ Hid (i + d = n) ∧ Hid (∀ j (h1 : j < R.length) (h2 : j < R'.length), j < i → R[j] = R'[j]) ∧ Hid (Upd [] w wr))
    case atStart => exact ⟨0, rfl, by omega, hid (by omega), hid (fun j _ _ h => by omega), hid (Upd.refl [] w)⟩
    case round =>
      obtain ⟨i, rfl, hin, Hi, HE, HU⟩ := hrel
      by_cases hi : i < n
      · have hi' : (i : Int) < (n : Int) := by omega
        have hl1 : i < R.length := by rw [← HN.out]; exact hi
        have hl2 : i < R'.length := by rw [← HM.out]; exact hi
        obtain ⟨G, kk, e1, ai, ki, c0, -, st⟩ := (HV.out.new HU.out).row i hl1
        obtain ⟨G', kk', e1', ai', ki', c0', -, st'⟩ := (HV'.out.new HU.out).row i hl2
        simp only [Value.slice.injEq] at e1 e1'
        obtain ⟨rfl, -, -⟩ := e1
        obtain ⟨rfl, -, -⟩ := e1'
        have hr1 := HF.out _ (List.getElem_mem hl1)
        have hr2 := HF'.out _ (List.getElem_mem hl2)
        obtain ⟨x, hx⟩ : ∃ x : List St, x = R[i]'hl1 := ⟨_, rfl⟩
        obtain ⟨y, hy⟩ : ∃ y : List St, y = R'[i]'hl2 := ⟨_, rfl⟩
        rw [← hx] at c0 st hr1
        rw [← hy] at c0' st' hr2
        have CL := hid (closure37 ai ai' x.length y.length ki ki' x y wr st st' rfl rfl hr1 hr2)
        obtain ⟨q, hq⟩ : ∃ q, q = decide (x = y) := ⟨_, rfl⟩
        rw [← hq] at CL
        rw [hx, hy] at hq
        have HQ := hid hq
        have HL1 := hid hl1
        have HL2 := hid hl2
        clear hq st st' hx hy
        obtain ⟨p, hp⟩ : ∃ p, p = x.length := ⟨_, rfl⟩
        obtain ⟨p', hp'⟩ : ∃ p', p' = y.length := ⟨_, rfl⟩
        rw [← hp] at c0 CL hr1
        rw [← hp'] at c0' CL hr2
        clear hp hp'
        go_wp2_with fail
        refine CL.out.mono ?_
        rintro e w1 ⟨rfl, hu⟩
        have U := hid hu
        clear hu CL
        cases q with
        | false =>
          go_wp2_with fail
          go_ret
          refine ⟨?_, HU.out.trans U.out (fun t ht => by cases ht)⟩
          rw [decide_eq_false (list_ne HL1.out HL2.out (of_decide_eq_false HQ.out.symm))]
          rfl
        | true =>
          go_wp2_with fail
          go_roundg (n - (i + 1))
          case measure => have := Hi.out; omega
          case rel =>
            refine ⟨i + 1, by go_num, by omega, hid (by omega), hid (fun j h1 h2 hj => ?_), hid (HU.out.trans U.out (fun t ht => by cases ht))⟩
            by_cases e : j = i
            · subst e; exact of_decide_eq_true HQ.out.symm
            · exact HE.out j h1 h2 (by omega)
      · obtain rfl : i = n := by omega
        go_wp2_with fail
        go_ret
        refine ⟨?_, HU.out⟩
        rw [decide_eq_true (list_eq (by rw [← HN.out, ← HM.out]) (fun j h1 h2 => HE.out j h1 h2 (by rw [HN.out]; exact h1)))]
        rfl
  · have hb : ((n : Int) == (m : Int)) = false := by rw [beq_eq_false_iff_ne]; omega
    go_enter Try.func36, Try.ntmps36
    go_wp2_with fail
    go_ret
    refine ⟨?_, Upd.refl [] w⟩
    rw [decide_eq_false (fun e => hnm (by rw [HN.out, HM.out, e]))]
    rfl
end Go.Proofs.Ytnikkakeiajmgaa.Pa
