/- The walk of the statement PartRounds. -/
import Derived.Test.YtnikkakeiajmgaaPn
namespace Go.Proofs.Ytnikkakeiajmgaa.Po
open Go Go.RowKit Go.Proofs.Ytnikkakeiajmgaa Go.Proofs.Ytnikkakeiajmgaa.K Go.Proofs.Ytnikkakeiajmgaa.M Go.Proofs.Ytnikkakeiajmgaa.O Go.Proofs.Ytnikkakeiajmgaa.R Go.Proofs.Ytnikkakeiajmgaa.Pt Go.Proofs.Ytnikkakeiajmgaa.Pa

/-- A step in a block of its own. -/
def StBox (w : World) (P : Nat) (s : St) : Prop := w.cell? ⟨P, 0, none⟩ = some (.int .i64 ((s.who.val : Nat) : Int)) ∧ w.cell? ⟨P, 1, none⟩ = some (.int .i64 ((s.rd.val : Nat) : Int)) ∧ w.cell? ⟨P, 2, none⟩ = some (.int .i64 ((s.wr.val : Nat) : Int))
theorem StBox.upd {w w' : World} {P : Nat} {s : St} (h : StBox w P s) (u : Upd [] w w') : StBox w' P s := ⟨u.cell h.1 (by simp), u.cell h.2.1 (by simp), u.cell h.2.2 (by simp)⟩
set_option maxHeartbeats 8000000 in
set_option maxRecDepth 100000 in
theorem closure16 (P : Nat) (s t : St) (w : World) (h : StBox w P s) :
    Calls Try.prog 16 #[.agg (stc t).toArray, .pointer (some ⟨P, 0, none⟩)] w fun e w' => e = .returned (.bool (depS s t)) ∧ Upd [] w w' := by
  have DP := fun w => hid (Depend_any s t w)
  obtain ⟨h0, h1, h2⟩ := h
  unfold stc at DP ⊢
  obtain ⟨d, hd⟩ : ∃ d, d = depS s t := ⟨_, rfl⟩
  rw [← hd] at DP ⊢
  clear hd
  obtain ⟨s0, hs0⟩ : ∃ s0 : Nat, s0 = s.who.val := ⟨_, rfl⟩
  obtain ⟨s1, hs1⟩ : ∃ s1 : Nat, s1 = s.rd.val := ⟨_, rfl⟩
  obtain ⟨s2, hs2⟩ : ∃ s2 : Nat, s2 = s.wr.val := ⟨_, rfl⟩
  obtain ⟨t0, ht0⟩ : ∃ t0 : Nat, t0 = t.who.val := ⟨_, rfl⟩
  obtain ⟨t1, ht1⟩ : ∃ t1 : Nat, t1 = t.rd.val := ⟨_, rfl⟩
  obtain ⟨t2, ht2⟩ : ∃ t2 : Nat, t2 = t.wr.val := ⟨_, rfl⟩
  rw [← hs0, ← hs1, ← hs2, ← ht0, ← ht1, ← ht2] at DP
  rw [← ht0, ← ht1, ← ht2]
  rw [← hs0] at h0
  rw [← hs1] at h1
  rw [← hs2] at h2
  clear hs0 hs1 hs2 ht0 ht1 ht2
  have hP := World.block_lt_of_cell? w _ h0
  simp only at hP
  go_enter Try.func16, Try.ntmps16
  go_wp2_with fail
  refine (DP _).out.mono ?_
  rintro e w1 ⟨rfl, hu⟩
  have U := hid (((Upd.refl [] w).alloc _).trans hu (fun t ht => by cases ht))
  clear hu
  go_wp2_with fail
  go_ret
  exact ⟨rfl, U.out⟩
theorem tells16 (P : Nat) (s : St) (w : World) (h : StBox w P s) : Tells 16 P (fun t => depS s t) w :=
  ⟨fun args w => run_enter Try.func16 (by kernel_rfl) rfl args w, fun t w' u => closure16 P s t w' (h.upd u)⟩

theorem row_indep {L : List St} {R : List (List St)} (h : IsRounds whoS (pairs depS L) R) {i j k : Nat} (hi : i < R.length) (hj : j < (R[i]).length) (hk : k < j) : depS (R[i][j]) (R[i][k]'(by omega)) = false := by
  have h1 := round_indep depS (good_pairs depS L) i
  have h2 := h.perm i
  rw [List.getD_eq_getElem?_getD, List.getElem?_eq_getElem hi] at h2
  have h3 : (R[i]).Pairwise (fun x y => depS x y = false) := (h2.pairwise_iff (fun {x y} h => by rw [depS_comm]; exact h)).2 h1
  rw [depS_comm]
  exact List.pairwise_iff_getElem.1 h3 k j (by omega) hj hk
theorem row_held {L : List St} {R : List (List St)} (h : IsRounds whoS (pairs depS L) R) {i : Nat} (hi : i + 1 < R.length) {s : St} (hs : s ∈ R[i + 1]) : (R[i]'(by omega)).any (fun t => depS s t) = true := by
  have h2 := h.perm (i + 1)
  rw [List.getD_eq_getElem?_getD, List.getElem?_eq_getElem hi] at h2
  obtain ⟨t, ht, hd⟩ := (good_pairs depS L).held s i (mem_round.1 (h2.subset hs))
  have h3 := h.perm i
  rw [List.getD_eq_getElem?_getD, List.getElem?_eq_getElem (by omega)] at h3
  exact List.any_eq_true.2 ⟨t, h3.symm.subset (mem_round.2 ht), by rw [depS_comm]; exact hd⟩

set_option maxHeartbeats 16000000 in
set_option maxRecDepth 100000 in
theorem the_walk (a0 : Option Addr) (len0 cap0 : Nat) (z0 : List Int) (w : World) (hx : IntRow w a0 z0) (hl : z0.length = len0) (hlc : len0 ≤ cap0) (hc : cap0 ≤ 9223372036854775807) :
    Calls Try.prog 4 #[.slice a0 len0 cap0] w fun e w' => e = .returned (.bool true) ∧ Upd [] w w' := by
  have HX := hid hx
  have HL := hid hl
  clear hx hl
  go_enter Try.func4, Try.ntmps4
  go_wp2_with fail
  refine (begun_any w).mono ?_
  rintro e w1 ⟨rfl, hu⟩
  have U1 := hid hu
  have ST := hid (steps_any a0 len0 cap0 z0 w1 (HX.out.upd hu) HL.out hlc hc)
  clear hu
  go_wp2_with fail
  refine ST.out.mono ?_
  rintro e w2 ⟨v, rfl, L, ho, h40, hu⟩
  have U2 := hid (U1.out.trans hu (fun t ht => by cases ht))
  obtain ⟨B, hB⟩ : ∃ B, B = w1.heap.size := ⟨_, rfl⟩
  rw [← hB] at ho
  have A2 := hid ho
  clear hu ho ST U1 hB hlc hc
  obtain ⟨a2, k2, rfl, -, -⟩ := A2.out.view
  have RD := hid (rounds_any a2 L L.length k2 w2 rfl h40 A2.out.at)
  have L40 := hid h40
  obtain ⟨l, hl⟩ : ∃ l, l = L.length := ⟨_, rfl⟩
  rw [← hl] at A2 RD ⊢
  have HLL := hid hl
  obtain ⟨C, hC⟩ : ∃ C, C = w2.heap.size := ⟨_, rfl⟩
  rw [← hC] at RD
  clear hl hC h40
  go_wp2_with fail
  refine RD.out.mono ?_
  rintro e w3 ⟨v3, rfl, ⟨R, ho, hr⟩, hu⟩
  have HO := hid ho
  have HR := hid hr
  have U3 := hid (U2.out.trans hu (fun t ht => by cases ht))
  have A3 := hid (A2.out.new hu)
  clear ho hr hu RD A2 U2
  obtain ⟨a4, k4, rfl⟩ := HO.out.shape
  have hn40 : R.length ≤ 40 := by have := rounds_len HR.out; have := L40.out; omega
  obtain ⟨n, hn⟩ : ∃ n, n = R.length := ⟨_, rfl⟩
  rw [← hn] at HO hn40 ⊢
  have HN := hid hn
  clear hn
  go_wp2_with fail
  go_loopg [28] n (fun d v28 wr => ∃ (i : Nat), v28 = .int .i64 (i : Int) ∧ i ≤ n ∧ Hid (i + d = n) ∧ Hid (Upd [] w3 wr))
  case atStart => exact ⟨0, rfl, by omega, hid (by omega), hid (Upd.refl [] w3)⟩
  case round =>
    obtain ⟨i, rfl, hi, Hi, HU⟩ := hrel
    by_cases hin : i < n
    · have hi' : (i : Int) < (n : Int) := by omega
      have hix : i < R.length := by rw [← HN.out]; exact hin
      have HO' := HO.out
      rw [HN.out] at HO'
      obtain ⟨G, kk, e1, ai, ki, c0, so, -⟩ := (HO'.new HU.out).row i hix
      simp only [Value.slice.injEq] at e1
      obtain ⟨rfl, -, -⟩ := e1
      obtain ⟨x, hx⟩ : ∃ x : List St, x = R[i]'hix := ⟨_, rfl⟩
      rw [← hx] at c0 so
      have hx8 := rounds_row HR.out x (by rw [hx]; exact List.getElem_mem _)
      have HXI := hid hx
      have HIX := hid hix
      have SO := hid so
      obtain ⟨a', k', em, hmk, hmc⟩ := so.view
      simp only [Value.slice.injEq] at em
      obtain ⟨-, -, rfl⟩ := em
      obtain ⟨m, hm⟩ : ∃ m, m = x.length := ⟨_, rfl⟩
      rw [← hm] at c0 hx8 hmk SO
      have HM := hid hm
      clear hx hm so HO'
      have WR := hid (show Upd [] wr wr from Upd.refl [] wr)
      obtain ⟨wo, hwo⟩ : ∃ wo, wo = wr := ⟨_, rfl⟩
      have SO' := SO
      rw [← hwo] at SO'
      have WU := hid (show Upd [] wo wr by rw [hwo]; exact Upd.refl [] wr)
      have VU := hid (show Upd [] w3 wo by rw [hwo]; exact HU.out)
      clear hwo WR
      go_wp2_with fail
      go_loopg [35] m (fun d v35 wz => ∃ (j : Nat), v35 = .int .i64 (j : Int) ∧ j ≤ m ∧ Hid (j + d = m) ∧ Hid (Upd [] wo wz))
      case atStart => exact ⟨0, rfl, by omega, hid (by omega), WU⟩
      case round =>
        clear WU SO HU
        obtain ⟨j, rfl, hj, Hj, WU⟩ := hrel
        by_cases hjm : j < m
        · have hj' : (j : Int) < (m : Int) := by omega
          have hjk : (j : Int) ≤ (ki : Int) := by omega
          have hjx : j < x.length := by rw [← HM.out]; exact hjm
          have SZ := hid (SO'.out.new WU.out)
          obtain ⟨gx, kx, ex, -⟩ := SZ.out.shape (by omega)
          simp only [Value.slice.injEq] at ex
          obtain ⟨rfl, -, -⟩ := ex
          obtain ⟨c0, c1, c2⟩ := SZ.out.cell hjx
          obtain ⟨s, hs⟩ : ∃ s : St, s = x.getD j default := ⟨_, rfl⟩
          rw [← hs] at c0 c1 c2
          have HS := hid hs
          have HJX := hid hjx
          obtain ⟨s0, hs0⟩ : ∃ s0 : Nat, s0 = s.who.val := ⟨_, rfl⟩
          obtain ⟨s1, hs1⟩ : ∃ s1 : Nat, s1 = s.rd.val := ⟨_, rfl⟩
          obtain ⟨s2, hs2⟩ : ∃ s2 : Nat, s2 = s.wr.val := ⟨_, rfl⟩
          rw [← hs0] at c0
          rw [← hs1] at c1
          rw [← hs2] at c2
          have CS := hid (show s.who.val = s0 ∧ s.rd.val = s1 ∧ s.wr.val = s2 from ⟨hs0.symm, hs1.symm, hs2.symm⟩)
          clear hs hs0 hs1 hs2
          obtain ⟨X, hX⟩ : ∃ X, X = wr.heap.size := ⟨_, rfl⟩
          have BX0 := K.blk_new wr (.cells #[.int .i64 (s0 : Int), .int .i64 (s1 : Int), .int .i64 (s2 : Int)] 29)
          go_wp2_with fail
          obtain ⟨w4, hw4⟩ : ∃ w4, w4 = wr.alloc (.cells #[.int .i64 (s0 : Int), .int .i64 (s1 : Int), .int .i64 (s2 : Int)] 29) := ⟨_, rfl⟩
          have BX := hid (show StBox w4 X s by
            rw [← hw4, ← hX] at BX0
            exact ⟨by rw [CS.out.1]; exact K.blk_cell BX0 0, by rw [CS.out.2.1]; exact K.blk_cell BX0 1, by rw [CS.out.2.2]; exact K.blk_cell BX0 2⟩)
          have V4 := hid (WU.out.trans (show Upd [] wr w4 by rw [hw4]; exact (Upd.refl [] wr).alloc _) (fun t ht => by cases ht))
          rw [← hw4, ← hX]
          clear BX0 hw4 hX c0 c1 c2 SZ WU
          go_loopg [44] j (fun d v44 wz => ∃ (k : Nat), v44 = .int .i64 (k : Int) ∧ k ≤ j ∧ Hid (k + d = j) ∧ Hid (Upd [] wo wz) ∧ Hid (StBox wz X s))
          case atStart => exact ⟨0, rfl, by omega, hid (by omega), V4, BX⟩
          case round =>
            clear V4 BX
            obtain ⟨k, rfl, hk, Hk, V4, BX⟩ := hrel
            by_cases hkj : k < j
            · have hk' : (k : Int) < (j : Int) := by omega
              have hkx : k < x.length := by have := HJX.out; omega
              have SZ := hid (SO'.out.new V4.out)
              obtain ⟨d0, d1, d2⟩ := SZ.out.cell hkx
              have hdd : depS s (x.getD k default) = false := by
                have h := row_indep HR.out HIX.out (j := j) (k := k) (by rw [← HXI.out]; exact HJX.out) hkj
                rw [HS.out, List.getD_eq_getElem?_getD, List.getD_eq_getElem?_getD, List.getElem?_eq_getElem HJX.out, List.getElem?_eq_getElem hkx]
                simp only [← HXI.out] at h
                exact h
              obtain ⟨t, ht⟩ : ∃ t : St, t = x.getD k default := ⟨_, rfl⟩
              rw [← ht] at d0 d1 d2 hdd
              have DP := fun w => hid (Depend_any s t w)
              rw [hdd] at DP
              unfold stc at DP
              obtain ⟨b0, b1, b2⟩ := BX.out
              rw [CS.out.1, CS.out.2.1, CS.out.2.2] at DP
              rw [CS.out.1] at b0
              rw [CS.out.2.1] at b1
              rw [CS.out.2.2] at b2
              obtain ⟨t0, ht0⟩ : ∃ t0 : Nat, t0 = t.who.val := ⟨_, rfl⟩
              obtain ⟨t1, ht1⟩ : ∃ t1 : Nat, t1 = t.rd.val := ⟨_, rfl⟩
              obtain ⟨t2, ht2⟩ : ∃ t2 : Nat, t2 = t.wr.val := ⟨_, rfl⟩
              rw [← ht0, ← ht1, ← ht2] at DP
              rw [← ht0] at d0
              rw [← ht1] at d1
              rw [← ht2] at d2
              have hXl := World.block_lt_of_cell? wr _ b0
              simp only at hXl
              clear ht ht0 ht1 ht2 hdd
              go_wp2_with fail
              refine (DP _).out.mono ?_
              rintro e w5 ⟨rfl, hu⟩
              have u5 := ((Upd.refl [] wr).alloc (.cells #[.int .i64 (t0 : Int), .int .i64 (t1 : Int), .int .i64 (t2 : Int)] 29)).trans hu (fun t ht => by cases ht)
              have V5 := hid (V4.out.trans u5 (fun t ht => by cases ht))
              have BX5 := hid (BX.out.upd u5)
              clear hu u5 DP b0 b1 b2 d0 d1 d2
              go_wp2_with fail
              go_roundg (j - (k + 1))
              case measure => have := Hk.out; omega
              case rel => exact ⟨k + 1, by go_num, by omega, hid (by omega), V5, BX5⟩
            · have hk' : ¬ (k : Int) < (j : Int) := by omega
              have HX3 := hid (VU.out.trans V4.out (fun t ht => by cases ht))
              by_cases hi0 : i = 0
              · subst hi0
                go_wp2_with fail
                go_roundg (m - (j + 1))
                case measure => have := Hj.out; omega
                case rel => exact ⟨j + 1, by go_num, by omega, hid (by omega), V4⟩
              · have hi0' : 0 < (i : Int) := by omega
                have hmf : ∀ (fn : Fn) (first cap : Array Value) (w : World), (Instr.makeFunc fn first cap).run Try.prog w = .ok (.func fn first cap) w := fun _ _ _ _ => rfl
                have hip : i - 1 < R.length := by have := HIX.out; omega
                have HO' := HO.out
                rw [HN.out] at HO'
                obtain ⟨G', kk', e1', ap, kp, c0, so, -⟩ := (HO'.new HX3.out).row (i - 1) hip
                simp only [Value.slice.injEq, Option.some.injEq, Addr.mk.injEq, and_true] at e1'
                obtain ⟨rfl, -, -⟩ := e1'
                have hany := row_held HR.out (i := i - 1) (by have := HIX.out; omega) (s := s) (by
                  have e : i - 1 + 1 = i := by omega
                  simp only [e]
                  rw [← HXI.out, HS.out, List.getD_eq_getElem?_getD, List.getElem?_eq_getElem HJX.out]
                  exact List.getElem_mem _)
                have hp8 := rounds_row HR.out _ (List.getElem_mem hip)
                have CF := contains_fn 16 X (fun t => depS s t) ap _ kp _ wr so.at rfl (by omega) (tells16 X s wr BX.out)
                rw [hany] at CF
                obtain ⟨y, hy⟩ : ∃ y : List St, y = R[i - 1]'hip := ⟨_, rfl⟩
                rw [← hy] at c0 CF hp8
                have CF' := hid CF
                obtain ⟨pl, hpl⟩ : ∃ pl, pl = y.length := ⟨_, rfl⟩
                rw [← hpl] at c0 CF' hp8
                clear hany so HO' CF hy hpl
                have hw1 : IntKind.i64.wrap ((i : Int) - 1) = ((i - 1 : Nat) : Int) := by rw [IntWalk.i64_in _ (by omega)]; omega
                have hlt : ((i - 1 : Nat) : Int) < (n : Int) := by omega
                go_wp2_with fail
                refine CF'.out.mono ?_
                rintro e w6 ⟨rfl, hu⟩
                have V6 := hid (V4.out.trans hu (fun t ht => by cases ht))
                clear hu CF'
                go_wp2_with fail
                go_roundg (m - (j + 1))
                case measure => have := Hj.out; omega
                case rel => exact ⟨j + 1, by go_num, by omega, hid (by omega), V6⟩
        · have hj' : ¬ (j : Int) < (m : Int) := by omega
          go_wp2_with fail
          go_roundg (n - (i + 1))
          case measure => have := Hi.out; omega
          case rel => exact ⟨i + 1, by go_num, by omega, hid (by omega), hid (VU.out.trans WU.out (fun t ht => by cases ht))⟩
    · have hi' : ¬ (i : Int) < (n : Int) := by omega
      have PF := hid (Proj.flat depS whoS HR.out)
      have hfl : R.flatten.length ≤ 40 := by
        have h := (PF.out.perm depS whoS depS_who).length_eq
        have := L40.out
        omega
      have HO' := HO.out
      rw [HN.out] at HO'
      have CC := hid (concat_any C _ R wr (HO'.new HU.out) (fun x hx => by
        obtain ⟨k, hk, rfl⟩ := List.mem_iff_getElem.1 hx
        have h := HR.out.ne k hk
        rwa [List.getD_eq_getElem?_getD, List.getElem?_eq_getElem hk] at h) (by rw [← HN.out]; omega) (by omega))
      rw [← HN.out] at CC
      have HFL := hid hfl
      clear hfl HO'
      go_wp2_with fail
      refine CC.out.mono ?_
      rintro e w5 ⟨v5, rfl, ho, hu⟩
      have U5 := hid ((U3.out.trans HU.out (fun t ht => by cases ht)).trans hu (fun t ht => by cases ht))
      have A5 := hid (A3.out.new (HU.out.trans hu (fun t ht => by cases ht)))
      obtain ⟨a5, k5, rfl, -, -⟩ := ho.view
      have SM := hid (same_any a2 a5 L R.flatten l k2 R.flatten.length k5 w5 HLL.out (by rw [HLL.out]; exact L40.out) (by have h := A5.out; rw [HLL.out] at h; exact h.at) rfl HFL.out ho.at)
      clear hu ho CC HU U3 A3
      obtain ⟨f, hf⟩ : ∃ f, f = R.flatten.length := ⟨_, rfl⟩
      rw [← hf] at SM ⊢
      clear hf
      go_wp2_with fail
      refine SM.out.mono ?_
      rintro e w6 ⟨q, rfl, hq, hu⟩
      have hq' := hq.2 PF.out
      subst hq'
      have U6 := hid (U5.out.trans hu (fun t ht => by cases ht))
      clear hq hu SM
      go_wp2_with fail
      go_ret
      exact ⟨rfl, U6.out⟩
end Go.Proofs.Ytnikkakeiajmgaa.Po
