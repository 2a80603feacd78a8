/- What the walk of CycleWhole calls: Clone, the search for an actor, by reference and by who knows. -/
import Derived.Test.YtgocminfohbedaaCi
import Derived.BigQuiet
namespace Go.Proofs.Ytgocminfohbedaa.Cy
open Go Go.RowKit Go.Proofs.Ytgocminfohbedaa Go.Proofs.Ytgocminfohbedaa.K Go.Proofs.Ytgocminfohbedaa.M Go.Proofs.Ytgocminfohbedaa.O Go.Proofs.Ytgocminfohbedaa.So Go.Proofs.Ytgocminfohbedaa.R

theorem clone_own {w : World} {B n : Nat} {v : Value} {xs : List Int} (h : w.ownsRow B 3 1 v n (ints xs)) (hn : n = xs.length) (h8 : n ≤ 1000) :
    Calls Try.prog 17 #[v] w fun e w' => ∃ v', e = .returned v' ∧ w'.ownsRow w.heap.size 3 1 v' n (ints xs) ∧ Upd [] w w' := by
  subst hn
  by_cases c : xs = []
  · subst c
    obtain ⟨a, k, e, -⟩ := own_view h
    subst e
    cases a with
    | none =>
      refine (Try.slices_Clone_int_nil 0 k w).mono ?_
      rintro e w' ⟨rfl, rfl⟩
      exact ⟨_, rfl, World.ownsRow_nil _ _ _ _, Upd.refl _ _⟩
    | some x =>
      refine (Try.slices_Clone_int_zero x k w).mono ?_
      rintro e w' ⟨v', rfl, ho, -, hb⟩
      exact ⟨v', rfl, ho, Upd.of_below hb []⟩
  · obtain ⟨r, k, cur, e, hb, hr, -⟩ := own_row h c
    subst e
    refine (Try.slices_Clone_int r 0 xs.length k xs w (Nat.le_refl _) (by omega) (fun j hj => ?_)).mono ?_
    · obtain ⟨y, e, c⟩ := hr j hj
      cases e
      rw [addz] at c
      rw [Nat.zero_add]
      exact c
    · rintro e w' ⟨v', rfl, ho, -, hb⟩
      rw [List.take_length] at ho
      exact ⟨v', rfl, ho, Upd.of_below hb []⟩
theorem contains_row {w : World} {M : Nat} {v : Value} {xs : List Int} (h : RefRow w v xs M) (h8 : xs.length ≤ 1000) (x : Int) :
    Calls Try.prog 12 #[v, .int .i64 x] w fun e w' => e = .returned (.bool (decide (x ∈ xs))) ∧ w' = w := by
  obtain ⟨ra, rk, ev, hr, h2⟩ := h
  subst ev
  rcases h2 with h2 | ⟨r, cur, er, -, -⟩
  · subst h2
    refine (Try.slices_Contains_int_empty ra rk x w).mono ?_
    rintro e w' ⟨rfl, rfl⟩
    exact ⟨by simp, rfl⟩
  · subst er
    refine (Try.slices_Contains_int r 0 xs.length rk xs x w (Nat.le_refl _) (by omega) (fun j hj => ?_)).mono ?_
    · obtain ⟨y, e, c⟩ := hr j hj
      cases e
      rw [addz] at c
      rw [Nat.zero_add]
      exact c
    · rintro e w' ⟨rfl, rfl⟩
      rw [List.take_length]
      refine ⟨?_, rfl⟩
      congr 2
      by_cases q : x ∈ xs
      · simp [q]
      · simp [q]
theorem RefRow.new {w w' : World} {v : Value} {xs : List Int} {M : Nat} (h : RefRow w v xs M) (u : Upd [] w w') : RefRow w' v xs M := h.keep u (fun _ _ _ _ hs => by cases hs) (Nat.le_refl _)
/-- An actor as a value. -/
def kval (p : Know × Value) : Value := .agg #[.int .i64 p.1.ref, .bool p.1.awake, .bool p.1.root, p.2]

set_option maxHeartbeats 2000000 in
set_option maxRecDepth 100000 in
theorem clos19 {w : World} {X : Nat} {r : Int} (p : Know × Value) (hX : w.cell? ⟨X, 0, none⟩ = some (.int .i64 r)) (hp : ∃ a m k, p.2 = .slice a m k) :
    Calls Try.prog 19 #[kval p, .pointer (some ⟨X, 0, none⟩)] w fun e w' => e = .returned (.bool (p.1.ref == r)) ∧ Upd [] w w' := by
  obtain ⟨⟨x, aw, ro, rf⟩, pv⟩ := p
  obtain ⟨a, m, k, rfl⟩ := hp
  have U := hid ((Upd.refl [] w).alloc (.cells #[.int .i64 x, .bool aw, .bool ro, .slice a m k] 31))
  have hlt := World.block_lt_of_cell? w _ hX
  simp only at hlt
  show Calls _ _ #[.agg #[.int .i64 x, .bool aw, .bool ro, .slice a m k], _] _ _
  go_enter Try.func19, Try.ntmps19
  go_wp2_with fail
  go_ret
  exact ⟨rfl, U.out⟩
/-- The first of the passes' row i - 1, and who knows. -/
structure Asks (w : World) (X6 X9 X12 i : Nat) (q : List Int) (r : Int) (M : Nat) : Prop where
  cp : ∃ xp np kp rq, w.cell? ⟨X6, 0, none⟩ = some (.slice (some ⟨xp, 0, none⟩) np kp) ∧ i ≤ np ∧ w.cell? ⟨xp, i - 1, none⟩ = some rq ∧ RefRow w rq q M
  ci : w.cell? ⟨X9, 0, none⟩ = some (.int .i64 (i : Int))
  cr : w.cell? ⟨X12, 0, none⟩ = some (.int .i64 r)
  pos : 1 ≤ i ∧ i ≤ 1000 ∧ q.length ≤ 1000
theorem Asks.new {w w' : World} {X6 X9 X12 i M : Nat} {q : List Int} {r : Int} (h : Asks w X6 X9 X12 i q r M) (u : Upd [] w w') : Asks w' X6 X9 X12 i q r M := by
  obtain ⟨xp, np, kp, rq, h1, h2, h3, h4⟩ := h.cp
  exact ⟨⟨xp, np, kp, rq, u.cell h1 (by simp), h2, u.cell h3 (by simp), h4.new u⟩, u.cell h.ci (by simp), u.cell h.cr (by simp), h.pos⟩
set_option maxHeartbeats 4000000 in
set_option maxRecDepth 100000 in
theorem clos21 {w : World} {X6 X9 X12 i M M' : Nat} {q : List Int} {r : Int} (p : Know × Value) (h : Asks w X6 X9 X12 i q r M) (hp : RefRow w p.2 p.1.refs M') (h8 : p.1.refs.length ≤ 100) :
    Calls Try.prog 21 #[kval p, .pointer (some ⟨X6, 0, none⟩), .pointer (some ⟨X9, 0, none⟩), .pointer (some ⟨X12, 0, none⟩)] w fun e w' => e = .returned (.bool (decide (p.1.ref ∈ q) && decide (r ∈ p.1.refs))) ∧ Upd [] w w' := by
  obtain ⟨⟨x, aw, ro, rf⟩, pv⟩ := p
  have HP := hid hp
  obtain ⟨ra, rk, ev, -, -⟩ := hp
  simp only at ev
  subst ev
  simp only at h8
  have HH := hid h
  obtain ⟨wb, hwb⟩ : ∃ wb, wb = w.alloc (.cells #[.int .i64 x, .bool aw, .bool ro, .slice ra rf.length rk] 31) := ⟨_, rfl⟩
  obtain ⟨X, hX⟩ : ∃ X, X = w.heap.size := ⟨_, rfl⟩
  have U := hid (show Upd [] w wb by rw [hwb]; exact (Upd.refl [] w).alloc _)
  have XB := hid (show wb.heap[X]? = some (.cells #[.int .i64 x, .bool aw, .bool ro, .slice ra rf.length rk] 31 (0, 0)) by rw [hwb, hX]; exact K.blk_new w _)
  have HB := hid (h.new U.out)
  have HPB := hid (HP.out.new U.out)
  obtain ⟨xp, np, kp, rq, c6, hin, cq, hrq⟩ := HB.out.cp
  have hrq' := hrq
  obtain ⟨aq, kq, eq, -, -⟩ := hrq'
  subst eq
  have c9 := HB.out.ci
  have c12 := HB.out.cr
  have X0 : wb.cell? ⟨X, 0, none⟩ = some (.int .i64 x) := K.blk_cell XB.out 0
  have X3 : wb.cell? ⟨X, 3, none⟩ = some (.slice ra rf.length rk) := K.blk_cell XB.out 3
  obtain ⟨j, hj⟩ : ∃ j, j = i - 1 := ⟨_, rfl⟩
  rw [← hj] at cq
  have hpos := HB.out.pos
  have hwi : IntKind.i64.wrap ((i : Int) - 1) = (j : Int) := by rw [IntWalk.i64_in _ (by omega)]; omega
  have hjn : (j : Int) < (np : Int) := by omega
  have CQ := hid (fun wz (u : Upd [] wb wz) => contains_row (hrq.new u) hpos.2.2 x)
  have CR := hid (fun wz (u : Upd [] wb wz) => contains_row (HPB.out.new u) (by show rf.length ≤ 1000; omega) r)
  have HJ := hid hj
  clear h hrq hpos hj h8
  show Calls _ _ #[.agg #[.int .i64 x, .bool aw, .bool ro, .slice ra rf.length rk], _, _, _] _ _
  by_cases hx : x ∈ q
  · have CX := hid (fun wz (u : Upd [] wb wz) => (CQ.out wz u).mono (R' := fun e w' => e = .returned (.bool true) ∧ w' = wz) (fun e w' ⟨h1, h2⟩ => ⟨by rw [h1, decide_eq_true hx], h2⟩))
    rw [decide_eq_true hx]
    obtain ⟨bb, hbb⟩ : ∃ bb, bb = decide (r ∈ rf) := ⟨_, rfl⟩
    have CRR := hid (fun wz (u : Upd [] wb wz) => (CR.out wz u).mono (R' := fun e w' => e = .returned (.bool bb) ∧ w' = wz) (fun e w' ⟨h1, h2⟩ => ⟨by rw [h1, hbb], h2⟩))
    rw [← hbb]
    have HBB := hid hbb
    clear hx CQ CR hbb
    go_enter Try.func21, Try.ntmps21
    go_upto_region 1 with (fail)
    rw [← hwb, ← hX]
    clear hwb hX
    go_quiet (first | (go_at_call 12; exact Calls.quiet_of_same (CX.out _ ((Upd.refl [] wb).drewN _))) | (go_at_call 12; exact Calls.quiet_of_same (CRR.out _ ((Upd.refl [] wb).drewN _))))
    go_wp2_with fail
    go_ret
    exact ⟨by simp, U.out.drewN _⟩
  · have CX := hid (fun wz (u : Upd [] wb wz) => (CQ.out wz u).mono (R' := fun e w' => e = .returned (.bool false) ∧ w' = wz) (fun e w' ⟨h1, h2⟩ => ⟨by rw [h1, decide_eq_false hx], h2⟩))
    rw [decide_eq_false hx]
    clear hx CQ CR
    go_enter Try.func21, Try.ntmps21
    go_upto_region 1 with (fail)
    rw [← hwb, ← hX]
    clear hwb hX
    go_quiet (first | (go_at_call 12; exact Calls.quiet_of_same (CX.out _ ((Upd.refl [] wb).drewN _))))
    go_wp2_with fail
    go_ret
    exact ⟨by simp, U.out.drewN _⟩

set_option maxHeartbeats 4000000 in
set_option maxRecDepth 100000 in
/-- slices.IndexFunc: the first actor of whom it is so. -/
theorem index19 {w : World} {B n k : Nat} {a : Option Addr} {L : List (Know × Value)} {X : Nat} (f : Nat → Bool) (hcl : ∀ j, j < n → ∀ wz, Upd [] w wz → Calls Try.prog 19 #[kval (L.getD j noKV), .pointer (some ⟨X, 0, none⟩)] wz fun e w' => e = .returned (.bool (f j)) ∧ Upd [] wz w') (ho : w.ownsRow B 31 4 (.slice a n k) n (kcells L)) (hn : n = L.length) (hn8 : n ≤ 1000) (hv : ∀ j, j < n → ∃ a m k, (L.getD j noKV).2 = .slice a m k) (hex : ∃ j, j < n ∧ f j = true) :
    Calls Try.prog 18 #[.slice a n k, .func (.func 19) #[] #[.pointer (some ⟨X, 0, none⟩)]] w fun e w' => ∃ i : Nat, e = .returned (.int .i64 (i : Int)) ∧ i < n ∧ f i = true ∧ Upd [] w w' := by
  have HC := hid hcl
  have HO := hid ho
  have HN := hid hn
  have HV := hid hv
  have HE := hid hex
  clear hcl ho hn hv hex
  go_enter Try.func18, Try.ntmps18
  go_wp2_with fail
  go_loopg [8] n (fun d v8 wr => ∃ (i : Nat), v8 = .int .i64 (i : Int) ∧ i ≤ n ∧ Hid (i + d = n) ∧ Hid (∀ j, j < i → f j = false) ∧ Hid (Upd [] w wr))
  case atStart => exact ⟨0, rfl, by omega, hid (by omega), hid (fun j hj => by omega), hid (Upd.refl _ _)⟩
  case round =>
    obtain ⟨i, rfl, hi, Hd, HF, HU⟩ := hrel
    by_cases hin : i < n
    · have hi' : (i : Int) < (n : Int) := by omega
      obtain ⟨d0, d1, d2, d3⟩ := kcells_get L i (by rw [← HN.out]; exact hin)
      obtain ⟨a5, k5, e5, _, _, hc⟩ := own_view (own_new HO.out HU.out)
      simp only [Value.slice.injEq] at e5
      obtain ⟨rfl, -, rfl⟩ := e5
      obtain ⟨g, e0, _, c0, _⟩ := hc _ _ d0
      subst e0
      obtain ⟨g', e', _, c1, _⟩ := hc _ _ d1
      cases e'
      obtain ⟨g', e', _, c2, _⟩ := hc _ _ d2
      cases e'
      obtain ⟨g', e', _, c3, _⟩ := hc _ _ d3
      cases e'
      have CL := HC.out i hin wr HU.out
      obtain ⟨pa, pm, pk, pe⟩ := HV.out i hin
      obtain ⟨⟨⟨x, aw, ro, rf⟩, pv⟩, hkv⟩ : ∃ kv, kv = L.getD i noKV := ⟨_, rfl⟩
      rw [← hkv] at c0 c1 c2 c3 CL pe
      simp only at c0 c1 c2 c3 pe
      subst pe
      have CL : Calls Try.prog 19 #[.agg #[.int .i64 x, .bool aw, .bool ro, .slice pa pm pk], .pointer (some ⟨X, 0, none⟩)] wr fun e w' => e = .returned (.bool (f i)) ∧ Upd [] wr w' := CL
      have HI := hid hin
      clear hkv d0 d1 d2 d3 hc hin
      cases hfi : f i with
      | true =>
        rw [hfi] at CL
        have CH := hid CL
        have HFI := hid hfi
        clear CL hfi
        go_wp2_with fail
        refine CH.out.mono ?_
        rintro e w' ⟨rfl, hu⟩
        have U6 := hid (HU.out.trans hu (fun t ht => by cases ht))
        clear hu
        go_wp2_with fail
        go_ret
        exact ⟨i, rfl, HI.out, HFI.out, U6.out⟩
      | false =>
        rw [hfi] at CL
        have CH := hid CL
        have HFI := hid hfi
        clear CL hfi
        go_wp2_with fail
        refine CH.out.mono ?_
        rintro e w' ⟨rfl, hu⟩
        have U6 := hid (HU.out.trans hu (fun t ht => by cases ht))
        clear hu c0 c1 c2 c3
        go_wp2_with fail
        go_roundg (n - (i + 1))
        case measure => have := Hd.out; have := HI.out; omega
        case rel => exact ⟨i + 1, by go_num, HI.out, hid (Nat.add_sub_of_le HI.out), hid (fun j hj => by
          by_cases c : j = i
          · subst c; exact HFI.out
          · exact HF.out j (by omega)), U6⟩
    · exfalso
      obtain ⟨j, hj, hf⟩ := HE.out
      rw [HF.out j (by omega)] at hf
      cases hf

set_option maxHeartbeats 4000000 in
set_option maxRecDepth 100000 in
/-- slices.IndexFunc: the first actor of whom it is so. -/
theorem index21 {w : World} {B n k : Nat} {a : Option Addr} {L : List (Know × Value)} {X6 X9 X12 : Nat} (f : Nat → Bool) (hcl : ∀ j, j < n → ∀ wz, Upd [] w wz → Calls Try.prog 21 #[kval (L.getD j noKV), .pointer (some ⟨X6, 0, none⟩), .pointer (some ⟨X9, 0, none⟩), .pointer (some ⟨X12, 0, none⟩)] wz fun e w' => e = .returned (.bool (f j)) ∧ Upd [] wz w') (ho : w.ownsRow B 31 4 (.slice a n k) n (kcells L)) (hn : n = L.length) (hn8 : n ≤ 1000) (hv : ∀ j, j < n → ∃ a m k, (L.getD j noKV).2 = .slice a m k) (hex : ∃ j, j < n ∧ f j = true) :
    Calls Try.prog 18 #[.slice a n k, .func (.func 21) #[] #[.pointer (some ⟨X6, 0, none⟩), .pointer (some ⟨X9, 0, none⟩), .pointer (some ⟨X12, 0, none⟩)]] w fun e w' => ∃ i : Nat, e = .returned (.int .i64 (i : Int)) ∧ i < n ∧ f i = true ∧ Upd [] w w' := by
  have HC := hid hcl
  have HO := hid ho
  have HN := hid hn
  have HV := hid hv
  have HE := hid hex
  clear hcl ho hn hv hex
  go_enter Try.func18, Try.ntmps18
  go_wp2_with fail
  go_loopg [8] n (fun d v8 wr => ∃ (i : Nat), v8 = .int .i64 (i : Int) ∧ i ≤ n ∧ Hid (i + d = n) ∧ Hid (∀ j, j < i → f j = false) ∧ Hid (Upd [] w wr))
  case atStart => exact ⟨0, rfl, by omega, hid (by omega), hid (fun j hj => by omega), hid (Upd.refl _ _)⟩
  case round =>
    obtain ⟨i, rfl, hi, Hd, HF, HU⟩ := hrel
    by_cases hin : i < n
    · have hi' : (i : Int) < (n : Int) := by omega
      obtain ⟨d0, d1, d2, d3⟩ := kcells_get L i (by rw [← HN.out]; exact hin)
      obtain ⟨a5, k5, e5, _, _, hc⟩ := own_view (own_new HO.out HU.out)
      simp only [Value.slice.injEq] at e5
      obtain ⟨rfl, -, rfl⟩ := e5
      obtain ⟨g, e0, _, c0, _⟩ := hc _ _ d0
      subst e0
      obtain ⟨g', e', _, c1, _⟩ := hc _ _ d1
      cases e'
      obtain ⟨g', e', _, c2, _⟩ := hc _ _ d2
      cases e'
      obtain ⟨g', e', _, c3, _⟩ := hc _ _ d3
      cases e'
      have CL := HC.out i hin wr HU.out
      obtain ⟨pa, pm, pk, pe⟩ := HV.out i hin
      obtain ⟨⟨⟨x, aw, ro, rf⟩, pv⟩, hkv⟩ : ∃ kv, kv = L.getD i noKV := ⟨_, rfl⟩
      rw [← hkv] at c0 c1 c2 c3 CL pe
      simp only at c0 c1 c2 c3 pe
      subst pe
      have CL : Calls Try.prog 21 #[.agg #[.int .i64 x, .bool aw, .bool ro, .slice pa pm pk], .pointer (some ⟨X6, 0, none⟩), .pointer (some ⟨X9, 0, none⟩), .pointer (some ⟨X12, 0, none⟩)] wr fun e w' => e = .returned (.bool (f i)) ∧ Upd [] wr w' := CL
      have HI := hid hin
      clear hkv d0 d1 d2 d3 hc hin
      cases hfi : f i with
      | true =>
        rw [hfi] at CL
        have CH := hid CL
        have HFI := hid hfi
        clear CL hfi
        go_wp2_with fail
        refine CH.out.mono ?_
        rintro e w' ⟨rfl, hu⟩
        have U6 := hid (HU.out.trans hu (fun t ht => by cases ht))
        clear hu
        go_wp2_with fail
        go_ret
        exact ⟨i, rfl, HI.out, HFI.out, U6.out⟩
      | false =>
        rw [hfi] at CL
        have CH := hid CL
        have HFI := hid hfi
        clear CL hfi
        go_wp2_with fail
        refine CH.out.mono ?_
        rintro e w' ⟨rfl, hu⟩
        have U6 := hid (HU.out.trans hu (fun t ht => by cases ht))
        clear hu c0 c1 c2 c3
        go_wp2_with fail
        go_roundg (n - (i + 1))
        case measure => have := Hd.out; have := HI.out; omega
        case rel => exact ⟨i + 1, by go_num, HI.out, hid (Nat.add_sub_of_le HI.out), hid (fun j hj => by
          by_cases c : j = i
          · subst c; exact HFI.out
          · exact HF.out j (by omega)), U6⟩
    · exfalso
      obtain ⟨j, hj, hf⟩ := HE.out
      rw [HF.out j (by omega)] at hf
      cases hf

set_option maxHeartbeats 2000000 in
set_option maxRecDepth 100000 in
theorem contains21 {w : World} {B n k X6 X9 X12 : Nat} {a : Option Addr} {L : List (Know × Value)} (f : Nat → Bool) (hcl : ∀ j, j < n → ∀ wz, Upd [] w wz → Calls Try.prog 21 #[kval (L.getD j noKV), .pointer (some ⟨X6, 0, none⟩), .pointer (some ⟨X9, 0, none⟩), .pointer (some ⟨X12, 0, none⟩)] wz fun e w' => e = .returned (.bool (f j)) ∧ Upd [] wz w') (ho : w.ownsRow B 31 4 (.slice a n k) n (kcells L)) (hn : n = L.length) (hn8 : n ≤ 1000) (hv : ∀ j, j < n → ∃ a m k, (L.getD j noKV).2 = .slice a m k) (hex : ∃ j, j < n ∧ f j = true) :
    Calls Try.prog 20 #[.slice a n k, .func (.func 21) #[] #[.pointer (some ⟨X6, 0, none⟩), .pointer (some ⟨X9, 0, none⟩), .pointer (some ⟨X12, 0, none⟩)]] w fun e w' => e = .returned (.bool true) ∧ Upd [] w w' := by
  have IX := hid (index21 f hcl ho hn hn8 hv hex)
  clear hcl ho hn hv hex
  go_enter Try.func20, Try.ntmps20
  go_wp2_with fail
  refine IX.out.mono ?_
  rintro e w' ⟨i, rfl, -, -, hu⟩
  have U := hid hu
  clear hu
  go_wp2_with fail
  go_ret
  exact ⟨by simp, U.out⟩
end Go.Proofs.Ytgocminfohbedaa.Cy
