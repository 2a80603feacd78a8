/- The walk of part.Normal. -/
import Derived.Test.YtnikkakeiajmgaaPs
namespace Go.Proofs.Ytnikkakeiajmgaa.Pa
open Go Go.RowKit Go.Proofs.Ytnikkakeiajmgaa Go.Proofs.Ytnikkakeiajmgaa.K Go.Proofs.Ytnikkakeiajmgaa.M Go.Proofs.Ytnikkakeiajmgaa.O Go.Proofs.Ytnikkakeiajmgaa.R Go.Proofs.Ytnikkakeiajmgaa.Pt

/-- A step on which nothing ahead of it bears. -/
def Free (M : List St) (j : Nat) : Prop := ∀ u ∈ M.take j, depS u (M.getD j default) = false
theorem free_any (M : List St) (j : Nat) : (M.take j).any (fun u => depS u (M.getD j default)) = false ↔ Free M j := by
  unfold Free
  rw [List.any_eq_false]
  constructor
  · intro h u hu; simpa using h u hu
  · intro h u hu; simpa using h u hu
/-- The best so far. -/
def Best (M : List St) (i : Nat) (b : Int) : Prop := (b = -1 ∧ ∀ j, j < i → ¬ Free M j) ∨ ∃ k : Nat, b = (k : Int) ∧ k < i ∧ Free M k ∧ ∀ j, j < i → Free M j → whoS (M.getD k default) ≤ whoS (M.getD j default)
theorem Best.skip {M : List St} {i : Nat} {b : Int} (h : Best M i b) (hf : ¬ Free M i) : Best M (i + 1) b := by
  rcases h with ⟨hb, h⟩ | ⟨k, hb, hk, hkf, h⟩
  · refine .inl ⟨hb, fun j hj => ?_⟩
    by_cases e : j = i
    · subst e; exact hf
    · exact h j (by omega)
  · refine .inr ⟨k, hb, by omega, hkf, fun j hj hjf => ?_⟩
    by_cases e : j = i
    · subst e; exact absurd hjf hf
    · exact h j (by omega) hjf
theorem Best.keep {M : List St} {i k : Nat} (h : Best M i (k : Int)) (hw : whoS (M.getD k default) ≤ whoS (M.getD i default)) : Best M (i + 1) (k : Int) := by
  rcases h with ⟨hb, h⟩ | ⟨k', hb, hk, hkf, h⟩
  · omega
  · have : k' = k := by omega
    subst this
    refine .inr ⟨k', rfl, by omega, hkf, fun j hj hjf => ?_⟩
    by_cases e : j = i
    · subst e; exact hw
    · exact h j (by omega) hjf
theorem Best.first {M : List St} {i : Nat} (h : Best M i (-1)) (hf : Free M i) : Best M (i + 1) (i : Int) := by
  rcases h with ⟨hb, h⟩ | ⟨k', hb, hk, hkf, h⟩
  · refine .inr ⟨i, rfl, by omega, hf, fun j hj hjf => ?_⟩
    by_cases e : j = i
    · subst e; exact Nat.le_refl _
    · exact absurd hjf (h j (by omega))
  · omega
theorem Best.better {M : List St} {i k : Nat} (h : Best M i (k : Int)) (hf : Free M i) (hw : whoS (M.getD i default) < whoS (M.getD k default)) : Best M (i + 1) (i : Int) := by
  rcases h with ⟨hb, h⟩ | ⟨k', hb, hk, hkf, h⟩
  · omega
  · have : k' = k := by omega
    subst this
    refine .inr ⟨i, rfl, by omega, hf, fun j hj hjf => ?_⟩
    by_cases e : j = i
    · subst e; exact Nat.le_refl _
    · have := h j (by omega) hjf; omega
theorem Best.lt {M : List St} {i k : Nat} (h : Best M i (k : Int)) : k < i := by
  rcases h with ⟨hb, h⟩ | ⟨k', hb, hk, hkf, h⟩ <;> omega
theorem Best.done {M : List St} {b : Int} (h : Best M M.length b) (h0 : 0 < M.length) : ∃ k : Nat, b = (k : Int) ∧ k < M.length ∧ ∀ x, Nrm depS whoS (M.eraseIdx k) x → Nrm depS whoS M (M.getD k default :: x) := by
  rcases h with ⟨hb, h⟩ | ⟨k, hb, hk, hkf, h⟩
  · exact absurd (fun u hu => by simp at hu) (h 0 h0)
  · refine ⟨k, hb, hk, fun x hx => ?_⟩
    have e0 : M = M.take k ++ M.getD k default :: M.drop (k + 1) := by
      have e1 : M.drop k = M[k] :: M.drop (k + 1) := List.drop_eq_getElem_cons hk
      have g0 : M.getD k default = M[k] := by rw [List.getD_eq_getElem?_getD, List.getElem?_eq_getElem hk]; rfl
      rw [g0, ← e1, List.take_append_drop]
    rw [List.eraseIdx_eq_take_drop_succ] at hx
    have := Nrm.cons (dep := depS) (who := whoS) (M.take k) (M.drop (k + 1)) x (M.getD k default) hkf (fun p' q' t e hf => by
      rw [← e0] at e
      have hj : p'.length < M.length := by rw [e]; simp
      have h1 : M.take p'.length = p' := by rw [e]; simp
      have h2 : M.getD p'.length default = t := by rw [e]; simp [List.getD_eq_getElem?_getD]
      have := h p'.length hj (fun u hu => by rw [h1] at hu; rw [h2]; exact hf u hu)
      rwa [h2] at this) hx
    rwa [← e0] at this

/-- A step in a block of its own. -/
def StB (w : World) (P : Nat) (s : St) : Prop := w.cell? ⟨P, 0, none⟩ = some (.int .i64 ((s.who.val : Nat) : Int)) ∧ w.cell? ⟨P, 1, none⟩ = some (.int .i64 ((s.rd.val : Nat) : Int)) ∧ w.cell? ⟨P, 2, none⟩ = some (.int .i64 ((s.wr.val : Nat) : Int))
theorem StB.upd {w w' : World} {P : Nat} {s : St} (h : StB w P s) (u : Upd [] w w') : StB w' P s := ⟨u.cell h.1 (by simp), u.cell h.2.1 (by simp), u.cell h.2.2 (by simp)⟩
set_option maxHeartbeats 8000000 in
set_option maxRecDepth 100000 in
theorem closure42 (P : Nat) (s t : St) (w : World) (h : StB w P s) :
    Calls Try.prog 42 #[.agg (stc t).toArray, .pointer (some ⟨P, 0, none⟩)] w fun e w' => e = .returned (.bool (depS t s)) ∧ Upd [] w w' := by
  have DP := fun w => hid (depend_any t s w)
  obtain ⟨h0, h1, h2⟩ := h
  unfold stc at DP ⊢
  obtain ⟨d, hd⟩ : ∃ d, d = depS t s := ⟨_, rfl⟩
  rw [← hd] at DP ⊢
  clear hd
  obtain ⟨s0, hs0⟩ : ∃ s0 : Nat, s0 = s.who.val := ⟨_, rfl⟩
  obtain ⟨s1, hs1⟩ : ∃ s1 : Nat, s1 = s.rd.val := ⟨_, rfl⟩
  obtain ⟨s2, hs2⟩ : ∃ s2 : Nat, s2 = s.wr.val := ⟨_, rfl⟩
  obtain ⟨t0, ht0⟩ : ∃ t0 : Nat, t0 = t.who.val := ⟨_, rfl⟩
  obtain ⟨t1, ht1⟩ : ∃ t1 : Nat, t1 = t.rd.val := ⟨_, rfl⟩
  obtain ⟨t2, ht2⟩ : ∃ t2 : Nat, t2 = t.wr.val := ⟨_, rfl⟩
  rw [← hs0, ← hs1, ← hs2, ← ht0, ← ht1, ← ht2] at DP
  rw [← ht0, ← ht1, ← ht2]
  rw [← hs0] at h0
  rw [← hs1] at h1
  rw [← hs2] at h2
  clear hs0 hs1 hs2 ht0 ht1 ht2
  have hP := World.block_lt_of_cell? w _ h0
  simp only at hP
  go_enter Try.func42, Try.ntmps42
  go_wp2_with fail
  refine (DP _).out.mono ?_
  rintro e w1 ⟨rfl, hu⟩
  have U := hid (((Upd.refl [] w).alloc _).trans hu (fun t ht => by cases ht))
  clear hu
  go_wp2_with fail
  go_ret
  exact ⟨rfl, U.out⟩
theorem tells42 (P : Nat) (s : St) (w : World) (h : StB w P s) : Tells 42 P (fun t => depS t s) w :=
  ⟨fun args w => run_enter Try.func42 (by kernel_rfl) rfl args w, fun t w' u => closure42 P s t w' (h.upd u)⟩

set_option maxHeartbeats 16000000 in
set_option maxRecDepth 100000 in
theorem normal_any (v : Value) (B : Nat) (L : List St) (w : World) (hv : StepsOf w B v L) (h40 : L.length ≤ 40) :
    Calls Try.prog 23 #[v] w fun e w' => ∃ v', e = .returned (.tuple #[v', .int .i64 0]) ∧ (∃ x, StepsOf w' w.heap.size v' x ∧ Nrm depS whoS L x) ∧ Upd [] w w' := by
  obtain ⟨i29, hi29, hz29a, hz29b, hz29c⟩ := info_parts info29
  have HI29 := hid hi29
  have HA29 := hid hz29a
  have HB29 := hid hz29b
  have HC29 := hid hz29c
  have hmf : ∀ (fn : Fn) (first cap : Array Value) (w : World), (Instr.makeFunc fn first cap).run Try.prog w = .ok (.func fn first cap) w := fun _ _ _ _ => rfl
  obtain ⟨a, c, rfl, -, -⟩ := hv.view
  have CK := hid (check_any a L L.length c w rfl h40 hv.at)
  have HV := hid hv
  have L40 := hid h40
  obtain ⟨l, hl⟩ : ∃ l, l = L.length := ⟨_, rfl⟩
  rw [← hl] at CK HV ⊢
  have HLL := hid hl
  clear hi29 hz29a hz29b hz29c hv h40 hl
  go_enter Try.func23, Try.ntmps23
  go_wp2_with fail
  refine CK.out.mono ?_
  rintro e w1 ⟨rfl, hu⟩
  have U1 := hid hu
  have CL := hid (clone_steps _ L w1 B (HV.out.new hu) (by have := L40.out; omega))
  obtain ⟨C1, hC1⟩ : ∃ C1, C1 = w1.heap.size := ⟨_, rfl⟩
  have W1 := hid (show w.heap.size ≤ C1 by rw [hC1]; exact hu.size)
  rw [← hC1] at CL
  clear hu CK HV hC1
  go_wp2_with fail
  refine CL.out.mono ?_
  rintro e w2 ⟨v5, rfl, ho, hu⟩
  have U2 := hid (U1.out.trans hu (fun t ht => by cases ht))
  have O2 := hid ho
  obtain ⟨C2, hC2⟩ : ∃ C2, C2 = w2.heap.size := ⟨_, rfl⟩
  have W2 := hid (show w.heap.size ≤ C2 by rw [hC2]; exact U2.out.size)
  have N2 := hid (fun k (hk : v5.ownBlock = some k) => (show k < C2 by rw [hC2]; exact own_lt ho k hk))
  have S2 := hid (show C2 ≤ w2.heap.size by rw [hC2]; exact Nat.le_refl _)
  clear hu ho CL U1 hC2
  go_wp2_with fail
  go_loopg [5, 6] L.length (fun d v5 v6 wr => ∃ (M O : List St), Hid (d = M.length) ∧ Hid (StepsOf wr C1 v5 M) ∧ Hid (StepsOf wr C2 v6 O) ∧ Hid (∀ k, v5.ownBlock = some k → k < C2) ∧ Hid (O.length + M.length ≤ 40) ∧ Hid (∀ x, Nrm depS whoS M x → Nrm depS whoS L (O ++ x)) ∧ Hid (C2 ≤ wr.heap.size) ∧ Hid (Upd [] w wr))
  case atStart => exact ⟨L, [], hid rfl, O2, hid (World.ownsRow_nil _ _ _ _), N2, hid (by have := L40.out; simpa using this), hid (fun x hx => hx), S2, U2⟩
  case round =>
    clear O2 N2 U2 S2
    obtain ⟨M, O, Hd, HM, HO, HN, H40, HX, HS, HU⟩ := hrel
    obtain ⟨a5, k5, e5, -, -⟩ := HM.out.view
    subst e5
    obtain ⟨m, hm⟩ : ∃ m, m = M.length := ⟨_, rfl⟩
    rw [← hm] at HM HN ⊢
    have HML := hid hm
    have hm40 : m ≤ 40 := by have := H40.out; omega
    clear hm
    by_cases hm0 : 0 < m
    · have hm0' : 0 < (m : Int) := by omega
      obtain ⟨g5, k', e', hgb, -⟩ := HM.out.shape (by rw [← HML.out]; exact hm0)
      have GB := hid hgb
      clear hgb
      simp only [Value.slice.injEq] at e'
      obtain ⟨rfl, -, -⟩ := e'
      obtain ⟨wo, hwo⟩ : ∃ wo, wo = wr := ⟨_, rfl⟩
      rw [← hwo] at HM HO HU HS
      have WU := hid (show Upd [] wo wr by rw [hwo]; exact Upd.refl [] wr)
      have mk5 := hid (HM.out.view)
      clear hwo
      go_wp2_with fail
      go_loopg [7, 23] m (fun d v7 v23 wz => ∃ (i : Nat) (b : Int), v23 = .int .i64 (i : Int) ∧ v7 = .int .i64 b ∧ i ≤ m ∧ Hid (i + d = m) ∧ Hid (Best M i b) ∧ Hid (Upd [] wo wz))
      case atStart => exact ⟨0, -1, rfl, rfl, by omega, hid (by omega), hid (.inl ⟨rfl, fun j hj => by omega⟩), WU⟩
      case round =>
        clear WU
        obtain ⟨i, b, rfl, rfl, hi, Hi, HB, WU⟩ := hrel
        by_cases him : i < m
        · have hi' : (i : Int) < (m : Int) := by omega
          have hik : (i : Int) ≤ (k5 : Int) := by
            obtain ⟨a', k', e', h1, h2⟩ := mk5.out
            simp only [Value.slice.injEq] at e'
            obtain ⟨-, -, rfl⟩ := e'
            have := HML.out
            omega
          have SZ := hid (HM.out.new WU.out)
          obtain ⟨c0, c1, c2⟩ := SZ.out.cell (i := i) (by rw [← HML.out]; exact him)
          obtain ⟨s, hs⟩ : ∃ s, s = M.getD i default := ⟨_, rfl⟩
          rw [← hs] at c0 c1 c2
          have HSS := hid hs
          obtain ⟨s0, hs0⟩ : ∃ s0 : Nat, s0 = s.who.val := ⟨_, rfl⟩
          obtain ⟨s1, hs1⟩ : ∃ s1 : Nat, s1 = s.rd.val := ⟨_, rfl⟩
          obtain ⟨s2, hs2⟩ : ∃ s2 : Nat, s2 = s.wr.val := ⟨_, rfl⟩
          rw [← hs0] at c0
          rw [← hs1] at c1
          rw [← hs2] at c2
          have CS := hid (show s.who.val = s0 ∧ s.rd.val = s1 ∧ s.wr.val = s2 from ⟨hs0.symm, hs1.symm, hs2.symm⟩)
          obtain ⟨X, hX⟩ : ∃ X, X = wr.heap.size := ⟨_, rfl⟩
          have BX0 := K.blk_new wr (.cells #[.int .i64 (s0 : Int), .int .i64 (s1 : Int), .int .i64 (s2 : Int)] 29)
          obtain ⟨w4, hw4⟩ : ∃ w4, w4 = wr.alloc (.cells #[.int .i64 (s0 : Int), .int .i64 (s1 : Int), .int .i64 (s2 : Int)] 29) := ⟨_, rfl⟩
          rw [← hw4, ← hX] at BX0
          have BX := hid (show StB w4 X s from ⟨by rw [CS.out.1]; exact K.blk_cell BX0 0, by rw [CS.out.2.1]; exact K.blk_cell BX0 1, by rw [CS.out.2.2]; exact K.blk_cell BX0 2⟩)
          have V4 := hid (WU.out.trans (show Upd [] wr w4 by rw [hw4]; exact (Upd.refl [] wr).alloc _) (fun t ht => by cases ht))
          have hM4 := HM.out.new V4.out
          rw [HML.out] at hM4
          have CF := hid (contains_fn 42 X (fun t => depS t s) (some ⟨g5, 0, none⟩) i k5 (M.take i) w4 (hM4.at.take i) (by rw [List.length_take]; have := HML.out; omega) (by omega) (tells42 X s w4 BX.out))
          obtain ⟨f, hf⟩ : ∃ f, f = (M.take i).any (fun t => depS t s) := ⟨_, rfl⟩
          rw [← hf] at CF
          have HF := hid (show f = false ↔ Free M i by rw [hf, hs]; exact free_any M i)
          clear hs hs0 hs1 hs2 BX0 hM4 hf
          go_wp2_with fail
          rw [← hw4, ← hX]
          clear hw4 hX c0 c1 c2 SZ WU
          refine CF.out.mono ?_
          rintro e w5 ⟨rfl, hu⟩
          have V5 := hid (V4.out.trans hu (fun t ht => by cases ht))
          have BX5 := hid (BX.out.upd hu)
          clear hu CF BX V4
          cases f with
          | true =>
            have NF := hid (HB.out.skip (fun h => by have := HF.out.2 h; cases this))
            go_wp2_with fail
            go_quiet (fail)
            go_wp2_with fail
            go_roundg (m - (i + 1))
            case measure => have := Hi.out; omega
            case rel => exact ⟨i + 1, b, by go_num, rfl, by omega, hid (by omega), NF, hid (V5.out.drewN nq)⟩
          | false =>
            have FR := hid (HF.out.1 rfl)
            clear HF
            by_cases hb : b = -1
            · subst hb
              have NB := hid (HB.out.first FR.out)
              have bx0 : w5.cell? ⟨X, 0, none⟩ = some (.int .i64 (s0 : Int)) := by rw [← CS.out.1]; exact BX5.out.1
              go_wp2_with fail
              go_quiet (fail)
              go_wp2_with fail
              go_roundg (m - (i + 1))
              case measure => have := Hi.out; omega
              case rel => exact ⟨i + 1, (i : Int), by go_num, rfl, by omega, hid (by omega), NB, hid (V5.out.drewN nq)⟩
            · obtain ⟨k, rfl⟩ : ∃ k : Nat, b = (k : Int) := by
                rcases HB.out with ⟨h, -⟩ | ⟨k, h, -⟩
                · exact absurd h hb
                · exact ⟨k, h⟩
              have hkl := HB.out.lt
              have hk' : (k : Int) < (m : Int) := by omega
              have hk0 : ¬ (k : Int) < 0 := by omega
              have bx0 : w5.cell? ⟨X, 0, none⟩ = some (.int .i64 (s0 : Int)) := by rw [← CS.out.1]; exact BX5.out.1
              obtain ⟨d0, -, -⟩ := (HM.out.new V5.out).cell (i := k) (by rw [← HML.out]; omega)
              obtain ⟨t0, ht0⟩ : ∃ t0 : Nat, t0 = (M.getD k default).who.val := ⟨_, rfl⟩
              rw [← ht0] at d0
              have HT0 := hid ht0
              clear ht0 hb hkl
              by_cases hlt : s0 < t0
              · have hlt' : (s0 : Int) < (t0 : Int) := by omega
                have NB := hid (HB.out.better FR.out (by
                  show (M.getD i default).who.val < (M.getD k default).who.val
                  rw [← HSS.out, CS.out.1, ← HT0.out]; exact hlt))
                go_wp2_with fail
                go_quiet (fail)
                go_wp2_with fail
                go_roundg (m - (i + 1))
                case measure => have := Hi.out; omega
                case rel => exact ⟨i + 1, (i : Int), by go_num, rfl, by omega, hid (by omega), NB, hid (V5.out.drewN nq)⟩
              · have hlt' : ¬ (s0 : Int) < (t0 : Int) := by omega
                have NB := hid (HB.out.keep (by
                  show (M.getD k default).who.val ≤ (M.getD i default).who.val
                  rw [← HSS.out, CS.out.1, ← HT0.out]; omega))
                go_wp2_with fail
                go_quiet (fail)
                go_wp2_with fail
                go_roundg (m - (i + 1))
                case measure => have := Hi.out; omega
                case rel => exact ⟨i + 1, (k : Int), by go_num, rfl, by omega, hid (by omega), NB, hid (V5.out.drewN nq)⟩
        · have hi' : ¬ (i : Int) < (m : Int) := by omega
          have hb := HB.out
          rw [show i = M.length by rw [← HML.out]; omega] at hb
          obtain ⟨k, rfl, hk, hnx⟩ := hb.done (by rw [← HML.out]; exact hm0)
          have HNX := hid hnx
          have hkm : k < m := by rw [HML.out]; exact hk
          have hk' : (k : Int) < (m : Int) := by omega
          have SZ := hid (HM.out.new WU.out)
          have OZ := hid (HO.out.new WU.out)
          obtain ⟨c0, c1, c2⟩ := SZ.out.cell hk
          obtain ⟨s, hs⟩ : ∃ s, s = M.getD k default := ⟨_, rfl⟩
          rw [← hs] at c0 c1 c2
          have HSS := hid hs
          obtain ⟨s0, hs0⟩ : ∃ s0 : Nat, s0 = s.who.val := ⟨_, rfl⟩
          obtain ⟨s1, hs1⟩ : ∃ s1 : Nat, s1 = s.rd.val := ⟨_, rfl⟩
          obtain ⟨s2, hs2⟩ : ∃ s2 : Nat, s2 = s.wr.val := ⟨_, rfl⟩
          rw [← hs0] at c0
          rw [← hs1] at c1
          rw [← hs2] at c2
          have SC := hid (show stc s = [.int .i64 (s0 : Int), .int .i64 (s1 : Int), .int .i64 (s2 : Int)] by rw [hs0, hs1, hs2]; rfl)
          obtain ⟨wa, hwa⟩ : ∃ wa, wa = wr.alloc (.cells #[.int .i64 (s0 : Int), .int .i64 (s1 : Int), .int .i64 (s2 : Int)] 29) := ⟨_, rfl⟩
          have ua : Upd [] wr wa := by rw [hwa]; exact (Upd.refl [] wr).alloc _
          have XA := hid (show wa.heap[wr.heap.size]? = some (.cells #[.int .i64 (s0 : Int), .int .i64 (s1 : Int), .int .i64 (s2 : Int)] 29 (0, 0)) by rw [hwa]; exact K.blk_new wr _)
          have SA := hid (SZ.out.new ua)
          have OA := hid (OZ.out.new ua)
          have UA := hid (WU.out.trans ua (fun t ht => by cases ht))
          have CA := hid (show C2 ≤ wa.heap.size from Nat.le_trans HS.out UA.out.size)
          clear hs hs0 hs1 hs2 hk SZ OZ ua hb HB hnx
          have ho40 : O.length ≤ 40 := by have := H40.out; omega
          go_wp2_with (first | (at_builtin; rw [← hwa]; clear hwa c0 c1 c2; refine wpList_append_own_at (w := wa) rfl (.tmp 51) (.tmp 56) 24 rfl C2 29 i29 _ 3 24 Try.underlying24 HI29.out HA29.out HB29.out HC29.out rfl (by decide) u6 O.length (cellsOf O) rfl OA.out ⟨wr.heap.size, 0, none⟩ 1 1 [.int .i64 (s0 : Int), .int .i64 (s1 : Int), .int .i64 (s2 : Int)] rfl rfl (fun j u hj => by rw [addz]; refine (K.blk_cell XA.out j).trans ?_; simpa using hj) (by intro u hu; simp at hu; rcases hu with rfl | rfl | rfl <;> rfl) (by unfold maxLen; omega) (by omega) CA.out ?_; intro v6 w6 h1 h2 _ h4; have O6 := hid h1; have U6 := hid ((Upd.refl u6.ownBlock.toList wa).grown h2 (fun k hk => Or.inl (by simp [hk]))); clear h1 h2))
          have hg5 := HN.out g5 rfl
          have SM6 := hid (show StepsOf w6 C1 (.slice (some ⟨g5, 0, none⟩) m k5) M from own_upd SA.out U6.out (fun j hj hs => by
            cases hj
            have := own_ge OA.out g5 (by simpa using hs)
            omega))
          have hM6 := SM6.out
          unfold StepsOf at hM6
          rw [← HML.out] at hM6
          have DL := hid (delete_any C1 _ M m k w6 hM6 HML.out hkm (by omega))
          have UW6 := hid (((HU.out.trans UA.out (fun t ht => by cases ht))).trans U6.out (fun t ht => .inr (by
            have := own_ge OA.out t (by simpa using ht)
            have := W2.out
            omega)))
          have O6' := hid (show StepsOf w6 C2 v6 (O ++ [s]) by
            unfold StepsOf
            rw [List.length_append, cellsOf_snoc, SC.out]
            exact O6.out)
          have S6 := hid (show C2 ≤ w6.heap.size from Nat.le_trans CA.out U6.out.size)
          have LE := hid (show (M.eraseIdx k).length = m - 1 by rw [List.length_eraseIdx, if_pos (by rw [← HML.out]; exact hkm), ← HML.out])
          clear hM6 SM6 U6 O6 UA SA OA HM HO HU XA CA
          go_wp2_with fail
          refine DL.out.mono ?_
          rintro e w7 ⟨v7, rfl, ho7, hb7, hu⟩
          have O7 := hid (show StepsOf w7 C1 v7 (M.eraseIdx k) by unfold StepsOf; rw [LE.out]; exact ho7)
          have P7 := hid (show StepsOf w7 C2 v6 (O ++ [s]) from own_upd O6'.out hu (fun j hj hs => by
            have h1 : j = g5 := by simpa [Value.ownBlock] using hs
            have := own_ge O6'.out j hj
            omega))
          have N7 := hid (fun j (hj : v7.ownBlock = some j) => HN.out j (hb7 j hj))
          have U7 := hid (UW6.out.trans hu (fun t ht => .inr (by
            have h1 : t = g5 := by simpa [Value.ownBlock] using ht
            have := W1.out
            have := GB.out
            omega)))
          have S7 := hid (show C2 ≤ w7.heap.size from Nat.le_trans S6.out hu.size)
          clear ho7 hb7 hu DL UW6 O6' S6 h4
          go_wp2_with fail
          go_roundg (m - 1)
          case measure => have := Hd.out; have := HML.out; omega
          case rel =>
            refine ⟨M.eraseIdx k, O ++ [s], hid LE.out.symm, O7, P7, N7, hid ?_, hid (fun x hx => ?_), S7, U7⟩
            · rw [LE.out, List.length_append, List.length_singleton]
              have := H40.out; have := HML.out; omega
            · have h := HX.out _ (HNX.out x hx)
              rw [← HSS.out] at h
              rw [List.append_assoc]
              exact h
    · have hm0' : ¬ 0 < (m : Int) := by omega
      have hM : M = [] := List.eq_nil_of_length_eq_zero (by rw [← HML.out]; omega)
      have hX := HX.out [] (by rw [hM]; exact .nil)
      rw [List.append_nil] at hX
      have HXX := hid hX
      clear hX hM HX
      go_wp2_with fail
      go_ret2
      exact ⟨_, rfl, ⟨O, own_mono HO.out W2.out, HXX.out⟩, HU.out⟩
end Go.Proofs.Ytnikkakeiajmgaa.Pa
