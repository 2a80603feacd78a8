/- The walk of the statement PartOrder. -/
import Derived.Test.YtnikkakeiajmgaaPq
namespace Go.Proofs.Ytnikkakeiajmgaa.Pr
open Go Go.RowKit Go.Proofs.Ytnikkakeiajmgaa Go.Proofs.Ytnikkakeiajmgaa.K Go.Proofs.Ytnikkakeiajmgaa.M Go.Proofs.Ytnikkakeiajmgaa.O Go.Proofs.Ytnikkakeiajmgaa.R Go.Proofs.Ytnikkakeiajmgaa.Pt Go.Proofs.Ytnikkakeiajmgaa.Pa

def notOf (q : Nat) (t : St) : Bool := !(whoS t == q)
set_option maxHeartbeats 8000000 in
set_option maxRecDepth 100000 in
theorem closure20 (P q : Nat) (t : St) (w : World) (h : w.cell? ⟨P, 0, none⟩ = some (.int .i64 (q : Int))) :
    Calls Try.prog 20 #[.agg (stc t).toArray, .pointer (some ⟨P, 0, none⟩)] w fun e w' => e = .returned (.bool (notOf q t)) ∧ Upd [] w w' := by
  unfold stc notOf whoS
  obtain ⟨t0, ht0⟩ : ∃ t0 : Nat, t0 = t.who.val := ⟨_, rfl⟩
  obtain ⟨t1, ht1⟩ : ∃ t1 : Nat, t1 = t.rd.val := ⟨_, rfl⟩
  obtain ⟨t2, ht2⟩ : ∃ t2 : Nat, t2 = t.wr.val := ⟨_, rfl⟩
  rw [← ht0, ← ht1, ← ht2]
  clear ht0 ht1 ht2
  have hP := World.block_lt_of_cell? w _ h
  simp only at hP
  have e : (!(t0 == q)) = ((t0 : Int) != (q : Int)) := by
    rw [Bool.eq_iff_iff]; simp; omega
  rw [e]
  go_enter Try.func20, Try.ntmps20
  go_wp2_with fail
  go_ret
  exact ⟨rfl, (Upd.refl [] w).alloc _⟩
set_option maxHeartbeats 8000000 in
set_option maxRecDepth 100000 in
theorem own_any (P q : Nat) (v : Value) (B : Nat) (L : List St) (w : World) (h : w.cell? ⟨P, 0, none⟩ = some (.int .i64 (q : Int))) (hv : StepsOf w B v L) (hn : L.length ≤ 1000) :
    Calls Try.prog 18 #[v, .pointer (some ⟨P, 0, none⟩)] w fun e w' => ∃ v', e = .returned v' ∧ StepsOf w' w.heap.size v' (L.filter (fun t => whoS t == q)) ∧ Upd [] w w' := by
  have CL := hid (clone_steps v L w B hv hn)
  have H := hid h
  have hP := World.block_lt_of_cell? w _ h
  have hmf : ∀ (fn : Fn) (first cap : Array Value) (w : World), (Instr.makeFunc fn first cap).run Try.prog w = .ok (.func fn first cap) w := fun _ _ _ _ => rfl
  simp only at hP
  have HP := hid hP
  obtain ⟨C, hC⟩ : ∃ C, C = w.heap.size := ⟨_, rfl⟩
  have HC := hid hC
  rw [← hC] at CL ⊢
  clear h hv hP hC
  go_enter Try.func18, Try.ntmps18
  go_wp2_with fail
  refine CL.out.mono ?_
  rintro e w1 ⟨v1, rfl, ho, hu⟩
  have NP := hid (show P ∉ v1.ownBlock.toList from fun hs => by
    have := own_ge ho P (by simpa using hs)
    have := HC.out; have := HP.out
    omega)
  have DL := hid (delete_steps (P := P) 20 (notOf q) ho hn (fun w' u => ⟨fun args w => run_enter Try.func20 (by kernel_rfl) rfl args w, fun t w'' u' => closure20 P q t w'' (u'.cell (u.cell (hu.cell H.out (by simp)) NP.out) (by simp))⟩))
  have U1 := hid hu
  have OG := hid (fun t (ht : t ∈ v1.ownBlock.toList) => own_ge ho t (by simpa using ht))
  clear hu ho CL
  go_wp2_with fail
  refine DL.out.mono ?_
  rintro e w2 ⟨v2, rfl, ho, hu⟩
  have U2 := hid (U1.out.trans hu (fun t ht => .inr (by rw [← HC.out]; exact OG.out t ht)))
  have O2 := hid ho
  clear hu ho DL
  go_wp2_with fail
  go_ret
  refine ⟨_, rfl, ?_, U2.out⟩
  have e : (fun t => whoS t == q) = (fun t => !notOf q t) := by funext t; unfold notOf; simp
  rw [e]
  exact O2.out

set_option maxHeartbeats 16000000 in
set_option maxRecDepth 100000 in
theorem the_walk (a0 : Option Addr) (len0 cap0 : Nat) (z0 : List Int) (a1 : Option Addr) (len1 cap1 : Nat) (z1 : List Int) (i0 : Int) (w : World) (hx : IntRow w a0 z0) (hl : z0.length = len0) (hlc : len0 ≤ cap0) (hc : cap0 ≤ 9223372036854775807) (hx1 : IntRow w a1 z1) (hl1 : z1.length = len1) (hlc1 : len1 ≤ cap1) (hc1 : cap1 ≤ 9223372036854775807) :
    Calls Try.prog 5 #[.slice a0 len0 cap0, .slice a1 len1 cap1, .int .i64 i0] w fun e w' => e = .returned (.bool true) ∧ Upd [] w w' := by
  have HX := hid hx
  have HL := hid hl
  have HX1 := hid hx1
  have HL1 := hid hl1
  clear hx hl hx1 hl1
  obtain ⟨wa, hwa⟩ : ∃ wa, wa = w.alloc (.cells #[.int .i64 i0] 3) := ⟨_, rfl⟩
  obtain ⟨X, hX⟩ : ∃ X, X = w.heap.size := ⟨_, rfl⟩
  have XB := hid (show wa.heap[X]? = some (.cells #[.int .i64 i0] 3 (0, 0)) by rw [hwa, hX]; exact K.blk_new w _)
  have UA := hid (show Upd [] w wa by rw [hwa]; exact (Upd.refl [] w).alloc _)
  have HXX := hid hX
  have BG := hid (begun_any wa)
  go_enter Try.func5, Try.ntmps5
  go_wp2_with fail
  rw [← hwa, ← hX]
  clear hwa hX
  refine BG.out.mono ?_
  rintro e w1 ⟨rfl, hu⟩
  have U1 := hid (UA.out.trans hu (fun t ht => by cases ht))
  have X1 := hid (hu.blk XB.out (by simp))
  have ST := hid (steps_any a0 len0 cap0 z0 w1 (HX.out.upd U1.out) HL.out hlc hc)
  clear hu XB UA BG
  go_wp2_with fail
  refine ST.out.mono ?_
  rintro e w2 ⟨va, rfl, L, ho, h40, hu⟩
  have U2 := hid (U1.out.trans hu (fun t ht => by cases ht))
  have X2 := hid (hu.blk X1.out (by simp))
  have OGA := hid (fun t (ht : va.ownBlock = some t) => (show X < t from by
    have := own_ge ho t ht
    have := K.blk_lt X1.out
    omega))
  obtain ⟨B, hB⟩ : ∃ B, B = w1.heap.size := ⟨_, rfl⟩
  rw [← hB] at ho
  have A2 := hid ho
  have L40 := hid h40
  have CL := hid (clone_steps va L w2 B ho (by omega))
  clear hu ho ST U1 hB X1
  obtain ⟨B2, hB2⟩ : ∃ B2, B2 = w2.heap.size := ⟨_, rfl⟩
  have HB2 := hid hB2
  rw [← hB2] at CL
  clear hB2 hlc hc
  go_wp2_with fail
  refine CL.out.mono ?_
  rintro e w3 ⟨vb, rfl, ho, hu⟩
  have U3 := hid (U2.out.trans hu (fun t ht => by cases ht))
  have X3 := hid (hu.blk X2.out (by simp))
  have A3 := hid (A2.out.new hu)
  have B3 := hid ho
  have XB2 := hid (show X < B2 by rw [HB2.out]; exact K.blk_lt X2.out)
  have WB2 := hid (show w.heap.size ≤ B2 by rw [HB2.out]; exact U2.out.size)
  have NV := hid (fun t (ht : va.ownBlock = some t) t' (ht' : vb.ownBlock = some t') => (show t ≠ t' from fun e => by
    have := own_lt A2.out t ht
    have := own_ge ho t' ht'
    have := HB2.out
    omega))
  clear hu ho CL A2 U2 X2 HB2
  obtain ⟨n, hn⟩ : ∃ n, n = L.length := ⟨_, rfl⟩
  have HN := hid hn
  obtain ⟨a2, k2, rfl, -, -⟩ := A3.out.view
  obtain ⟨b2, k3, rfl, hbk, hbk2⟩ := B3.out.view
  rw [← hn] at A3 B3 NV OGA h40 ⊢
  clear hn hbk hbk2
  obtain ⟨m, hm⟩ : ∃ m : Nat, min (len1 : Int) 60 = (m : Int) := ⟨min len1 60, by omega⟩
  have hmin := fun ats ty => min_nat ats ty .i64 .i64 (len1 : Int) 60 m hm
  have hm1 : m ≤ len1 := by omega
  have hm2 : m ≤ 60 := by omega
  have sl1 : (m : Int) ≤ (cap1 : Int) := by omega
  have sl2 : (m : Int) ≤ (len1 : Int) := by omega
  clear hm
  go_wp2_with fail
  go_loopg [31] m (fun d v31 wr => ∃ (r : Nat) (M : List St), v31 = .int .i64 (r : Int) ∧ r ≤ m ∧ Hid (r + d = m) ∧ Hid (StepsOf wr B (.slice a2 n k2) L) ∧ Hid (StepsOf wr B2 (.slice b2 n k3) M) ∧ Hid (n = M.length) ∧ Hid (wr.heap[X]? = some (.cells #[.int .i64 i0] 3 (0, 0))) ∧ Hid (Upd [] w wr))
  case atStart => exact ⟨0, L, rfl, by omega, hid (by omega), A3, B3, HN, X3, U3⟩
  case round =>
    clear A3 B3 X3 U3
    obtain ⟨r, M, rfl, hr, Hr, HA, HB, HM, HXB, HU⟩ := hrel
    by_cases hrm : r < m
    · have hr' : (r : Int) < (m : Int) := by omega
      obtain ⟨xa, rfl, hcx⟩ := (HX1.out.upd HU.out) r (by rw [HL1.out]; omega)
      obtain ⟨z, hz⟩ : ∃ z, z = z1.getD r 0 := ⟨_, rfl⟩
      rw [← hz] at hcx
      clear hz
      by_cases hn2 : n < 2
      · have hn2' : ¬ 2 ≤ (n : Int) := by omega
        go_wp2_with fail
        go_roundg (m - (r + 1))
        case measure => have := Hr.out; omega
        case rel => exact ⟨r + 1, M, by go_num, by omega, hid (by omega), HA, HB, HM, HXB, HU⟩
      · have hn2' : 2 ≤ (n : Int) := by omega
        have hw1 : IntKind.i64.wrap ((n : Int) - 1) = (n : Int) - 1 := IntWalk.i64_in _ (by omega)
        go_wp2_with fail
        refine (rest_some _ _ _ (by omega) (by omega)).mono ?_
        rintro e w' ⟨i, hi, -, rfl, rfl⟩
        have hi1 : i + 1 < n := by omega
        have IL := hid (show i + 1 < M.length by rw [← HM.out]; exact hi1)
        obtain ⟨g3, k', e, -⟩ := HB.out.shape (by have := IL.out; omega)
        simp only [Value.slice.injEq] at e
        obtain ⟨rfl, -, -⟩ := e
        obtain ⟨c0, c1, c2⟩ := HB.out.cell (i := i) (by have := IL.out; omega)
        obtain ⟨d0, d1, d2⟩ := HB.out.cell (i := i + 1) IL.out
        obtain ⟨x, hx⟩ : ∃ x, x = M.getD i default := ⟨_, rfl⟩
        obtain ⟨y, hy⟩ : ∃ y, y = M.getD (i + 1) default := ⟨_, rfl⟩
        rw [← hx] at c0 c1 c2
        rw [← hy] at d0 d1 d2
        have f0 := HB.out.fro (i * 3)
        have f1 := HB.out.fro (i * 3 + 1)
        have f2 := HB.out.fro (i * 3 + 2)
        have f3 := HB.out.fro ((i + 1) * 3)
        have f4 := HB.out.fro ((i + 1) * 3 + 1)
        have f5 := HB.out.fro ((i + 1) * 3 + 2)
        obtain ⟨x0, hx0⟩ : ∃ x0 : Nat, x0 = x.who.val := ⟨_, rfl⟩
        obtain ⟨x1, hx1⟩ : ∃ x1 : Nat, x1 = x.rd.val := ⟨_, rfl⟩
        obtain ⟨x2, hx2⟩ : ∃ x2 : Nat, x2 = x.wr.val := ⟨_, rfl⟩
        obtain ⟨y0, hy0⟩ : ∃ y0 : Nat, y0 = y.who.val := ⟨_, rfl⟩
        obtain ⟨y1, hy1⟩ : ∃ y1 : Nat, y1 = y.rd.val := ⟨_, rfl⟩
        obtain ⟨y2, hy2⟩ : ∃ y2 : Nat, y2 = y.wr.val := ⟨_, rfl⟩
        rw [← hx0] at c0
        rw [← hx1] at c1
        rw [← hx2] at c2
        rw [← hy0] at d0
        rw [← hy1] at d1
        rw [← hy2] at d2
        have W6 := hid (show StepsOf ((((((wr.setCell ⟨g3, i * 3, none⟩ (.int .i64 (y0 : Int))).setCell ⟨g3, i * 3 + 1, none⟩ (.int .i64 (y1 : Int))).setCell ⟨g3, i * 3 + 2, none⟩ (.int .i64 (y2 : Int))).setCell ⟨g3, (i + 1) * 3, none⟩ (.int .i64 (x0 : Int))).setCell ⟨g3, (i + 1) * 3 + 1, none⟩ (.int .i64 (x1 : Int))).setCell ⟨g3, (i + 1) * 3 + 2, none⟩ (.int .i64 (x2 : Int))) B2 (.slice (some ⟨g3, 0, none⟩) n k3) (swp M i) by
          have h := (HB.out.set HM.out (i := i) (by omega) y).set (by rw [List.length_set]; exact HM.out) (i := i + 1) hi1 x
          rw [← hx0, ← hx1, ← hx2, ← hy0, ← hy1, ← hy2] at h
          unfold swp
          rw [← hx, ← hy]
          exact h)
        have G3 := hid (show X ≠ g3 ∧ w.heap.size ≤ g3 by
          have h1 := own_ge HB.out g3 rfl
          have h2 := XB2.out
          have h3 := WB2.out
          exact ⟨by omega, by omega⟩)
        clear hx hy hx0 hx1 hx2 hy0 hy1 hy2 HB
        have hi' : (i : Int) < (n : Int) := by omega
        have hi2' : (i : Int) + 1 < (n : Int) := by omega
        have hw2 : IntKind.i64.wrap ((i : Int) + 1) = (i : Int) + 1 := IntWalk.i64_in _ (by omega)
        go_wp2_with fail
        go_region
        obtain ⟨w4, hw4⟩ : ∃ w4, w4 = ((((((wr.setCell ⟨g3, i * 3, none⟩ (.int .i64 (y0 : Int))).setCell ⟨g3, i * 3 + 1, none⟩ (.int .i64 (y1 : Int))).setCell ⟨g3, i * 3 + 2, none⟩ (.int .i64 (y2 : Int))).setCell ⟨g3, (i + 1) * 3, none⟩ (.int .i64 (x0 : Int))).setCell ⟨g3, (i + 1) * 3 + 1, none⟩ (.int .i64 (x1 : Int))).setCell ⟨g3, (i + 1) * 3 + 2, none⟩ (.int .i64 (x2 : Int))).drew := ⟨_, rfl⟩
        rw [← hw4]
        have u4 := hid (show Upd [g3] wr w4 by
          rw [hw4]
          exact ((((((((Upd.refl [g3] wr).setCell (.inl (by simp)) _).setCell (.inl (by simp)) _).setCell (.inl (by simp)) _).setCell (.inl (by simp)) _).setCell (.inl (by simp)) _).setCell (.inl (by simp)) _).drew))
        have U4 := hid (HU.out.trans u4.out (fun t ht => .inr (by simp at ht; subst ht; exact G3.out.2)))
        have A4 := hid (show StepsOf w4 B (.slice a2 n k2) L from own_upd HA.out u4.out (fun j hj hs => by
          simp only [List.mem_singleton] at hs
          exact NV.out j hj g3 rfl hs))
        have B4 := hid (show StepsOf w4 B2 (.slice (some ⟨g3, 0, none⟩) n k3) (swp M i) by
          rw [hw4]
          exact own_new W6.out ((Upd.refl [] _).drew))
        have X4 := hid (u4.out.blk HXB.out (by simpa using G3.out.1))
        clear hw4 W6 u4 HU HA HXB c0 c1 c2 d0 d1 d2 f0 f1 f2 f3 f4 f5
        go_wp2_with fail
        go_roundg (m - (r + 1))
        case measure => have := Hr.out; omega
        case rel => exact ⟨r + 1, swp M i, by go_num, by omega, hid (by omega), A4, B4, hid (by rw [swp_len]; exact HM.out), X4, U4⟩
    · have hr' : ¬ (r : Int) < (m : Int) := by omega
      have SM := hid (same_any a2 b2 L M n k2 n k3 wr HN.out h40 (by have h := HA.out; rw [HN.out] at h; exact h.at) HM.out h40 (by have h := HB.out; rw [HM.out] at h; exact h.at))
      go_wp2_with fail
      refine SM.out.mono ?_
      rintro e w6 ⟨q, rfl, hq, hu⟩
      have Q6 := hid hq
      have U6 := hid (HU.out.trans hu (fun t ht => by cases ht))
      have A6 := hid (HA.out.new hu)
      have B6 := hid (HB.out.new hu)
      have X6 := hid (hu.blk HXB.out (by simp))
      clear hq hu SM HU HA HB HXB
      cases q with
      | false =>
        go_wp2_with fail
        go_ret
        exact ⟨rfl, U6.out⟩
      | true =>
        have PJ := hid (Q6.out.1 rfl)
        clear Q6
        have cx : w6.cell? ⟨X, 0, none⟩ = some (.int .i64 i0) := K.blk_cell X6.out 0
        have fx : w6.frozen? ⟨X, 0, none⟩ = false := K.blk_frozen X6.out 0
        have hmf : ∀ (fn : Fn) (first cap : Array Value) (w : World), (Instr.makeFunc fn first cap).run Try.prog w = .ok (.func fn first cap) w := fun _ _ _ _ => rfl
        go_wp2_with fail
        refine (rest_some _ _ _ (by omega) (by omega)).mono ?_
        rintro e w' ⟨p, hp, -, rfl, rfl⟩
        have WX := hid (show w.heap.size ≤ X by rw [HXX.out]; exact Nat.le_refl _)
        obtain ⟨w7, hw7⟩ : ∃ w7, w7 = w6.setCell ⟨X, 0, none⟩ (.int .i64 (p : Int)) := ⟨_, rfl⟩
        have u7 := hid (show Upd [X] w6 w7 by rw [hw7]; exact (Upd.refl [X] w6).setCell (.inl (by simp)) _)
        have X7 := hid (show w7.cell? ⟨X, 0, none⟩ = some (.int .i64 (p : Int)) by
          rw [hw7]
          exact K.blk_cell (blk_set X6.out 0 _) 0)
        have A7 := hid (show StepsOf w7 B (.slice a2 n k2) L from own_upd A6.out u7.out (fun j hj hs => by
          simp only [List.mem_singleton] at hs
          have := OGA.out j hj
          omega))
        have B7 := hid (show StepsOf w7 B2 (.slice b2 n k3) M from own_upd B6.out u7.out (fun j hj hs => by
          simp only [List.mem_singleton] at hs
          have := own_ge B6.out j hj
          have := XB2.out
          omega))
        have U7 := hid (U6.out.trans u7.out (fun t ht => .inr (by simp at ht; subst ht; exact WX.out)))
        have S1 := hid (swaps_any a2 L n k2 w7 HN.out h40 (by have h := A7.out; rw [HN.out] at h; exact h.at))
        have S2 := fun w' u => hid (swaps_any b2 M n k3 w' HM.out h40 (by have h := B7.out.new (w' := w') u; rw [HM.out] at h; exact h.at))
        have SE := hid (nsw_perm depS depS_comm (PJ.out.perm depS whoS depS_who))
        obtain ⟨s1, hs1⟩ : ∃ s1, s1 = nsw depS L := ⟨_, rfl⟩
        rw [← hs1] at S1 SE
        rw [← SE.out] at S2
        clear U6 A6 B6 X6 u7 hs1 SE
        go_wp2_with fail
        rw [← hw7]
        clear hw7 cx fx
        refine S1.out.mono ?_
        rintro e w8 ⟨rfl, hu⟩
        have S2' := S2 w8 hu
        have U8 := hid (U7.out.trans hu (fun t ht => by cases ht))
        have A8 := hid (A7.out.new hu)
        have B8 := hid (B7.out.new hu)
        have X8 := hid (hu.cell X7.out (by simp))
        clear hu S1 S2 U7 A7 B7 X7
        go_wp2_with fail
        refine S2'.out.mono ?_
        rintro e w9 ⟨rfl, hu⟩
        have U9 := hid (U8.out.trans hu (fun t ht => by cases ht))
        have A9 := hid (A8.out.new hu)
        have B9 := hid (B8.out.new hu)
        have X9 := hid (hu.cell X8.out (by simp))
        have O1 := hid (own_any X p (.slice a2 n k2) B L w9 X9.out A9.out (by rw [← HN.out]; omega))
        obtain ⟨D, hD⟩ : ∃ D, D = w9.heap.size := ⟨_, rfl⟩
        rw [← hD] at O1
        clear hu S2' U8 A8 B8 X8 hD
        go_wp2_with fail
        refine O1.out.mono ?_
        rintro e w10 ⟨v10, rfl, ho10, hu⟩
        have U10 := hid (U9.out.trans hu (fun t ht => by cases ht))
        have O10 := hid ho10
        have O2 := hid (own_any X p (.slice b2 n k3) B2 M w10 (hu.cell X9.out (by simp)) (B9.out.new hu) (by rw [← HM.out]; omega))
        obtain ⟨D2, hD2⟩ : ∃ D, D = w10.heap.size := ⟨_, rfl⟩
        rw [← hD2] at O2
        clear hu ho10 O1 U9 A9 B9 X9 hD2
        go_wp2_with fail
        refine O2.out.mono ?_
        rintro e w11 ⟨v11, rfl, ho11, hu⟩
        have U11 := hid (U10.out.trans hu (fun t ht => by cases ht))
        have hP := PJ.out (fun t => whoS t == p) (fun x y hx hy => depS_who x y (by
          have h1 : whoS x = p := by simpa using hx
          have h2 : whoS y = p := by simpa using hy
          omega))
        have O11 := O10.out.new hu
        rw [← hP] at ho11
        obtain ⟨F, hF⟩ : ∃ F, F = L.filter (fun t => whoS t == p) := ⟨_, rfl⟩
        have hF40 : F.length ≤ 40 := by
          have h1 : F.length ≤ L.length := by rw [hF]; exact List.length_filter_le _ _
          have := L40.out
          omega
        rw [← hF] at ho11 O11
        obtain ⟨a10, k10, rfl, -, -⟩ := O11.view
        obtain ⟨a11, k11, rfl, -, -⟩ := ho11.view
        have EQ := hid (equal_st a10 a11 F.length F.length k10 k11 F F w11 O11.at ho11.at rfl rfl (by omega) (by omega))
        rw [decide_eq_true rfl] at EQ
        clear hu ho11 O11 O2 O10 U10 hP hF PJ
        obtain ⟨f, hf⟩ : ∃ f, f = F.length := ⟨_, rfl⟩
        rw [← hf] at EQ ⊢
        clear hf
        go_wp2_with fail
        refine EQ.out.mono ?_
        rintro e w12 ⟨rfl, hu⟩
        have U12 := hid (U11.out.trans hu (fun t ht => by cases ht))
        clear hu EQ
        go_wp2_with fail
        go_ret
        exact ⟨rfl, U12.out⟩
end Go.Proofs.Ytnikkakeiajmgaa.Pr
