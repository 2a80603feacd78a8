/- The walks of slices.ContainsFunc at steps, and of slices.Concat at rounds. -/
import Derived.Test.YtnikkakeiajmgaaPl
import Derived.Lib.AppendZerosOnto
import Derived.Lib.SliceRun
namespace Go.Proofs.Ytnikkakeiajmgaa.Pa
open Go Go.RowKit Go.Proofs.Ytnikkakeiajmgaa Go.Proofs.Ytnikkakeiajmgaa.K Go.Proofs.Ytnikkakeiajmgaa.M Go.Proofs.Ytnikkakeiajmgaa.O Go.Proofs.Ytnikkakeiajmgaa.R Go.Proofs.Ytnikkakeiajmgaa.Pt

theorem run_enter {P : Program} {f : FuncId} {fn : Func} {c : Code} (hf : P.funcs[f]? = some fn) (hname : (fn.name == "runtime.NumGoroutine") = false) (hb : fn.body = some c) (args : Array Value) (w : World) :
    (callFunc f args).run P w = .ok (.enter f args) w := by
  have h1 : fn.name ≠ "runtime.NumGoroutine" := by simpa using hname
  simp [callFunc, hf, h1, hb]
/-- A function of a step that answers p and changes nothing that stands. -/
structure Tells (fn P : Nat) (p : St → Bool) (w : World) : Prop where
  enter : ∀ args w, (callFunc fn args).run Try.prog w = .ok (.enter fn args) w
  tells : ∀ (t : St) w', Upd [] w w' → Calls Try.prog fn #[.agg (stc t).toArray, .pointer (some ⟨P, 0, none⟩)] w' fun e w'' => e = .returned (.bool (p t)) ∧ Upd [] w' w''
theorem Tells.upd {fn P : Nat} {p : St → Bool} {w w' : World} (h : Tells fn P p w) (u : Upd [] w w') : Tells fn P p w' := ⟨h.enter, fun t w'' u' => h.tells t w'' (u.trans u' (fun t ht => by cases ht))⟩
set_option maxHeartbeats 8000000 in
set_option maxRecDepth 100000 in
theorem index_fn (fn P : Nat) (p : St → Bool) (a : Option Addr) (n c : Nat) (l : List St) (w : World) (hx : StepAt w a l) (hl : n = l.length) (hn : n ≤ 1000) (hp : Tells fn P p w) :
    Calls Try.prog 40 #[.slice a n c, .func (.func fn) #[] #[.pointer (some ⟨P, 0, none⟩)]] w fun e w' => ∃ r : Int, e = .returned (.int .i64 r) ∧ decide (0 ≤ r) = l.any p ∧ Upd [] w w' := by
  have HX := hid hx
  have HL := hid hl
  have HP := hid hp
  have hen := hp.enter
  clear hx hl hp
  go_enter Try.func40, Try.ntmps40
  go_wp2_with fail
  go_loopg [8] n (fun d v8 wr => ∃ (i : Nat), v8 = .int .i64 (i : Int) ∧ i ≤ n ∧ Hid (i + d = n) ∧ Hid ((l.take i).any p = false) ∧ Hid (Upd [] w wr))
  case atStart => exact ⟨0, rfl, by omega, hid (by omega), hid rfl, hid (Upd.refl _ _)⟩
  case round =>
    obtain ⟨i, rfl, hin, Hi, HF, HU⟩ := hrel
    by_cases hi : i < n
    · have hi' : (i : Int) < (n : Int) := by omega
      have hix : i < l.length := by rw [← HL.out]; exact hi
      obtain ⟨g, rfl, c0, c1, c2⟩ := (HX.out.upd HU.out) i hix
      have HTK := hid (List.take_succ_eq_append_getElem hix)
      obtain ⟨t, ht⟩ : ∃ t : St, t = l[i]'hix := ⟨_, rfl⟩
      rw [← ht] at c0 c1 c2 HTK
      have HM := hid (show t ∈ l by rw [ht]; exact List.getElem_mem _)
      have CL := hid (HP.out.tells t wr HU.out)
      unfold stc at CL
      clear ht
      obtain ⟨t0, ht0⟩ : ∃ t0 : Nat, t0 = t.who.val := ⟨_, rfl⟩
      obtain ⟨t1, ht1⟩ : ∃ t1 : Nat, t1 = t.rd.val := ⟨_, rfl⟩
      obtain ⟨t2, ht2⟩ : ∃ t2 : Nat, t2 = t.wr.val := ⟨_, rfl⟩
      rw [← ht0] at c0 CL
      rw [← ht1] at c1 CL
      rw [← ht2] at c2 CL
      obtain ⟨q, hq⟩ : ∃ q, q = p t := ⟨_, rfl⟩
      rw [← hq] at CL
      have HQ := hid hq
      clear ht0 ht1 ht2 hq hix
      go_wp2_with fail
      refine CL.out.mono ?_
      rintro e w6 ⟨rfl, hu⟩
      have V := hid (HU.out.trans hu (by simp))
      clear hu CL
      cases q with
      | true =>
        go_wp2_with fail
        go_ret
        refine ⟨(i : Int), rfl, ?_, V.out⟩
        rw [decide_eq_true (by omega)]
        exact (List.any_eq_true.2 ⟨t, HM.out, HQ.out.symm⟩).symm
      | false =>
        go_wp2_with fail
        go_roundg (n - (i + 1))
        case measure => have := Hi.out; omega
        case rel =>
          refine ⟨i + 1, by go_num, by omega, hid (by omega), hid ?_, V⟩
          rw [HTK.out, List.any_append, HF.out]
          simp [← HQ.out]
    · obtain rfl : i = n := by omega
      go_wp2_with fail
      go_ret
      refine ⟨-1, rfl, ?_, HU.out⟩
      have h := HF.out
      rw [HL.out, List.take_length] at h
      rw [h]; rfl
set_option maxHeartbeats 4000000 in
theorem contains_fn (fn P : Nat) (p : St → Bool) (a : Option Addr) (n c : Nat) (l : List St) (w : World) (hx : StepAt w a l) (hl : n = l.length) (hn : n ≤ 1000) (hp : Tells fn P p w) :
    Calls Try.prog 15 #[.slice a n c, .func (.func fn) #[] #[.pointer (some ⟨P, 0, none⟩)]] w fun e w' => e = .returned (.bool (l.any p)) ∧ Upd [] w w' := by
  have ix := hid (index_fn fn P p a n c l w hx hl hn hp)
  clear hp hx hl
  go_enter Try.func15, Try.ntmps15
  go_wp2_with fail
  refine ix.out.mono ?_
  rintro e w6 ⟨r, rfl, hr, hu⟩
  have V := hid hu
  have HR := hid hr
  clear hu ix hr
  go_wp2_with fail
  go_ret
  refine ⟨?_, V.out⟩
  rw [← HR.out]
  rfl

/-- 'append([]Step(nil), make([]Step, k)...)'. -/
theorem wpList_zeros {W : World} {ops : Array Oper} {rest : List Oper} {o : Oper} {a : Act} {Q : Exit → Act → World → Prop} (hgd : o.guard = none) (s x : Operand)
    (ho : o.op = .call { callee := .builtin .append, args := #[s, x], argTypes := #[24, 3] })
    (i : TypeInfo) (hi : Try.prog.info? 29 = some i) (hz : i.zero = some (.agg #[.int .i64 0, .int .i64 0, .int .i64 0])) (hsize : i.size = 3) (hby : i.bytes = 24)
    (hs : a.eval s = .slice none 0 0) (k : Nat) (hx : a.eval x = .int .i64 (k : Int)) (h0 : 0 < k) (hk : k ≤ 100000)
    (h : ∀ cap w', w'.ownsRow W.heap.size 29 3 (.slice (some ⟨W.heap.size, 0, none⟩) 0 cap) 0 [] → k ≤ cap → cap ≤ 9223372036854775807 → Upd [] W w' → wpList Try.prog ops Q rest (a.put o.dst (.slice (some ⟨W.heap.size, 0, none⟩) k cap)) w') :
    wpList Try.prog ops Q (o :: rest) a W := by
  refine wpList_plain hgd fun K hK => ?_
  have hn : Builtin.nextslicecap (0 + k) 0 = k := by
    unfold Builtin.nextslicecap
    rw [if_pos (by omega)]; omega
  have hr := fun ty => Go.Lib.run_append_grow_zeros (P := Try.prog) W 24 3 ty 29 i (.agg #[.int .i64 0, .int .i64 0, .int .i64 0]) .i64 .i64 Try.underlying24 Try.underlying3 hi hz none 0 0 [] (by rw [hsize]; exact run_firstCells_none W.drew 3 0 0 0) k h0 (by omega) (by omega) (by omega) (by rw [hby]; omega) (by rw [hn, hby]; omega)
  unfold Oper.wp execOp
  simp only [ho, resolve, invoke, builtin, Sem.run_bind, Sem.run_pure, Result.andThen_ok, List.map_toArray, List.map_cons, List.map_nil, hs, hx, hr]
  refine hK _ _ ?_
  obtain ⟨cap, hc⟩ : ∃ cap, cap = grownCap W (0 + k) 0 29 := ⟨_, rfl⟩
  rw [← hc]
  have h1 : k ≤ cap := by rw [hc]; exact Nat.le_trans (by omega) (grownCap_ge W (0 + k) 0 29)
  have h2 : cap ≤ 9223372036854775807 := by
    rw [hc]; have := grownCap_le_maxLen W (0 + k) 0 29 (by unfold maxLen; omega); unfold maxLen at this; omega
  have h3 : (0 + k) = k := by omega
  rw [h3]
  refine h cap _ ?_ h1 h2 ((Upd.refl [] W).drew.alloc _)
  refine World.ownsRow_made (w := W.drew) _ cap (Nat.le_refl _) (by unfold maxLen; omega) ?_
  simp only [Array.size_append, Go.size_zeroCells, List.size_toArray, List.length_nil]
  show 0 + k * 3 + (cap - k) * 3 = cap * 3
  omega

set_option maxHeartbeats 4000000 in
set_option maxRecDepth 100000 in
theorem grow_any (k : Nat) (h0 : 0 < k) (hk : k ≤ 100000) (w : World) :
    Calls Try.prog 41 #[.slice none 0 0, .int .i64 (k : Int)] w fun e w' => ∃ v, e = .returned v ∧ StepsOf w' w.heap.size v [] ∧ Upd [] w w' := by
  obtain ⟨i29, hi, hza, hzb, hzc⟩ := info_parts info29
  have h1 : ¬ (k : Int) < 0 := by omega
  have h2 : 0 < (k : Int) := by omega
  go_enter Try.func41, Try.ntmps41
  go_wp2_with (first | (at_builtin; refine wpList_zeros rfl (.tmp 20) (.tmp 21) rfl i29 hi hza hzb hzc rfl k rfl h0 hk ?_; intro cap w' ho hc hc2 hu; have HO := hid ho; have HU := hid hu; clear ho hu))
  go_ret
  exact ⟨_, rfl, HO.out, HU.out⟩
set_option maxHeartbeats 4000000 in
set_option maxRecDepth 100000 in
theorem grow_zero (w : World) :
    Calls Try.prog 41 #[.slice none 0 0, .int .i64 0] w fun e w' => ∃ v, e = .returned v ∧ StepsOf w' w.heap.size v [] ∧ Upd [] w w' := by
  go_enter Try.func41, Try.ntmps41
  go_wp2_with fail
  go_ret
  exact ⟨_, rfl, World.ownsRow_nil _ _ _ _, Upd.refl _ _⟩

theorem StepsOf.flat {w : World} {B gx m k : Nat} {x : List St} (h : StepsOf w B (.slice (some ⟨gx, 0, none⟩) m k) x) (j : Nat) (u : Value) (hu : (cellsOf x)[j]? = some u) : w.cell? ((⟨gx, 0, none⟩ : Addr).add j) = some u := by
  obtain ⟨a', k', e', _, _, hc⟩ := own_view h
  simp only [Value.slice.injEq] at e'
  obtain ⟨rfl, -, rfl⟩ := e'
  obtain ⟨g', eg, _, hc', _⟩ := hc j u hu
  cases eg
  rw [addz]; exact hc'
theorem flat_take (R : List (List St)) (i : Nat) (h : i < R.length) : (R.take (i + 1)).flatten = (R.take i).flatten ++ R[i] := by
  rw [List.take_succ_eq_append_getElem h, List.flatten_append]; simp
theorem cellsOf_append (a b : List St) : cellsOf (a ++ b) = cellsOf a ++ cellsOf b := by unfold cellsOf; rw [List.flatMap_append]
set_option maxHeartbeats 8000000 in
set_option maxRecDepth 100000 in
theorem concat_any (B : Nat) (v : Value) (R : List (List St)) (w : World) (hv : OutAt w B v R) (hne : ∀ x ∈ R, x ≠ []) (hR : R.length ≤ 1000) (h40 : R.flatten.length ≤ 1000) :
    Calls Try.prog 17 #[v] w fun e w' => ∃ v', e = .returned v' ∧ StepsOf w' w.heap.size v' R.flatten ∧ Upd [] w w' := by
  obtain ⟨i29, hi29, hz29a, hz29b, hz29c⟩ := info_parts info29
  have HI29 := hid hi29
  have HA29 := hid hz29a
  have HB29 := hid hz29b
  have HC29 := hid hz29c
  have FL := hid (show ∀ i, (R.take i).flatten.length ≤ 1000 from fun i => by
    have e : R.flatten = (R.take i).flatten ++ (R.drop i).flatten := by rw [← List.flatten_append, List.take_append_drop]
    rw [e, List.length_append] at h40; omega)
  obtain ⟨C, hC⟩ : ∃ C, C = w.heap.size := ⟨_, rfl⟩
  have HCS := hid hC
  rw [← hC]
  obtain ⟨a, k, rfl⟩ := hv.shape
  have HV := hid hv
  have HNE := hid hne
  obtain ⟨n, hn⟩ : ∃ n, n = R.length := ⟨_, rfl⟩
  rw [← hn] at hR ⊢
  have HN := hid hn
  clear hi29 hz29a hz29b hz29c hC hv hne hn h40
  go_enter Try.func17, Try.ntmps17
  go_wp2_with fail
  go_loopg [3, 11] n (fun d v3 v11 wr => ∃ (i : Nat), v11 = .int .i64 (i : Int) ∧ v3 = .int .i64 (((R.take i).flatten.length : Nat) : Int) ∧ i ≤ n ∧ Hid (i + d = n) ∧ wr = w)
  case atStart => exact ⟨0, rfl, rfl, by omega, hid (by omega), rfl⟩
  case round =>
    obtain ⟨i, rfl, rfl, hin, Hi, hw⟩ := hrel
    have hw' := hw.symm
    subst hw'
    clear hw
    have hf := FL.out i
    obtain ⟨s, hs⟩ : ∃ s, s = (R.take i).flatten.length := ⟨_, rfl⟩
    rw [← hs] at hf ⊢
    have HS := hid hs
    clear hs
    by_cases hi : i < n
    · have hi' : (i : Int) < (n : Int) := by omega
      have hix : i < R.length := by rw [← HN.out]; exact hi
      obtain ⟨G, kk, e1, ai, ki, c0, -, -⟩ := HV.out.row i hix
      simp only [Value.slice.injEq] at e1
      obtain ⟨rfl, -, -⟩ := e1
      have HF := flat_take R i hix
      obtain ⟨x, hx⟩ : ∃ x : List St, x = R[i]'hix := ⟨_, rfl⟩
      rw [← hx] at c0 HF
      have hf1 := FL.out (i + 1)
      rw [HF, List.length_append, ← HS.out] at hf1
      have HF' := hid HF
      obtain ⟨m, hm⟩ : ∃ m, m = x.length := ⟨_, rfl⟩
      rw [← hm] at c0 hf1
      have HM := hid hm
      clear hx HF hm
      have b : ¬ ((s : Int) + (m : Int)) < 0 := by omega
      go_wp2_with fail
      go_roundg (n - (i + 1))
      case measure => have := Hi.out; omega
      case rel =>
        refine ⟨i + 1, by go_num, ?_, by omega, hid (by omega), rfl⟩
        rw [HF'.out, List.length_append, ← HS.out, ← HM.out]
        go_num
    · have hi' : ¬ (i : Int) < (n : Int) := by omega
      have ei : i = n := by omega
      clear hi
      have GR := hid (show Calls Try.prog 41 #[.slice none 0 0, .int .i64 (s : Int)] w fun e w' => ∃ v, e = .returned v ∧ StepsOf w' w.heap.size v [] ∧ Upd [] w w' by
        rcases Nat.eq_zero_or_pos s with e | e
        · subst e; exact grow_zero w
        · exact grow_any s e (by omega) w)
      rw [← HCS.out] at GR
      go_wp2_with fail
      refine GR.out.mono ?_
      rintro e w3 ⟨v3, rfl, ho, hu⟩
      have U3 := hid hu
      have O3 := hid ho
      clear ho hu GR HS hf
      go_wp2_with fail
      go_loopg [6, 27] n (fun d v6 v27 wz => ∃ (i : Nat), v27 = .int .i64 (i : Int) ∧ i ≤ n ∧ Hid (i + d = n) ∧ Hid (StepsOf wz C v6 (R.take i).flatten) ∧ Hid (Upd [] w wz))
      case atStart => exact ⟨0, rfl, by omega, hid (by omega), O3, U3⟩
      case round =>
        clear U3 O3 ei hi' Hi hin
        obtain ⟨j, rfl, hjn, Hj, HO, HU⟩ := hrel
        by_cases hj : j < n
        · have hj' : (j : Int) < (n : Int) := by omega
          have hjx : j < R.length := by rw [← HN.out]; exact hj
          obtain ⟨G, kk, e1, ai, ki, c0, so, -⟩ := (HV.out.new HU.out).row j hjx
          simp only [Value.slice.injEq] at e1
          obtain ⟨rfl, -, -⟩ := e1
          have HF := flat_take R j hjx
          have hnx := HNE.out _ (List.getElem_mem hjx)
          have hfj := FL.out j
          have hf1 := FL.out (j + 1)
          obtain ⟨x, hx⟩ : ∃ x : List St, x = R[j]'hjx := ⟨_, rfl⟩
          rw [← hx] at c0 HF so hnx
          obtain ⟨F, hF⟩ : ∃ F, F = (R.take j).flatten := ⟨_, rfl⟩
          rw [← hF] at HF HO hfj
          rw [HF, List.length_append] at hf1
          have HF' := hid HF
          obtain ⟨gx, kx, ex, -⟩ := so.shape (List.length_pos_iff.2 hnx)
          simp only [Value.slice.injEq] at ex
          obtain ⟨rfl, -, rfl⟩ := ex
          have SO := hid so
          have CS := hid (show C ≤ wr.heap.size by rw [HCS.out]; exact HU.out.size)
          clear hx HF hF so hnx
          obtain ⟨m, hm⟩ : ∃ m, m = x.length := ⟨_, rfl⟩
          rw [← hm] at c0 hf1
          have HM := hid hm
          clear hm
          go_wp2_with (first | (at_builtin; refine wpList_append_own_at (w := wr) rfl (.tmp 31) (.tmp 32) 24 rfl C 29 i29 _ 3 24 Try.underlying24 HI29.out HA29.out HB29.out HC29.out rfl (by decide) u6 F.length (cellsOf F) rfl HO.out ⟨gx, 0, none⟩ m ki (cellsOf x) rfl (by rw [cellsOf_length, ← HM.out]) SO.out.flat (cells_one x) (by unfold maxLen; omega) (by omega) CS.out ?_; intro v6 w6 h1 h2 _ _; have O6 := hid h1; have U6 := hid ((Upd.refl u6.ownBlock.toList wr).grown h2 (fun k hk => Or.inl (by simp [hk]))); clear h1 h2))
          go_roundg (n - (j + 1))
          case measure => have := Hj.out; omega
          case rel =>
            refine ⟨j + 1, by go_num, by omega, hid (by omega), hid ?_, hid (HU.out.trans U6.out (fun t ht => .inr (by rw [← HCS.out]; exact own_ge HO.out t (by simpa using ht))))⟩
            rw [HF'.out]
            unfold StepsOf
            rw [List.length_append, cellsOf_append, ← HM.out]
            exact O6.out
        · have ej : j = n := by omega
          have hj' : ¬ (j : Int) < (n : Int) := by omega
          have hO := HO.out
          rw [ej, HN.out, List.take_length] at hO
          have HO2 := hid hO
          clear hO HO
          go_wp2_with fail
          go_ret
          exact ⟨_, rfl, HO2.out, HU.out⟩
end Go.Proofs.Ytnikkakeiajmgaa.Pa
