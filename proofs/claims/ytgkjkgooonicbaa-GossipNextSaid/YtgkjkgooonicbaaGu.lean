/- The walk of the statement GossipDead. -/
import Derived.Test.YtgkjkgooonicbaaGt
namespace Go.Proofs.Ytgkjkgooonicbaa.Gs
open Go Go.RowKit Go.Proofs.Ytgkjkgooonicbaa Go.Proofs.Ytgkjkgooonicbaa.K Go.Proofs.Ytgkjkgooonicbaa.M Go.Proofs.Ytgkjkgooonicbaa.O Go.Proofs.Ytgkjkgooonicbaa.R

theorem tick1_quiet (s : G) (i : Nat) (h : (s.rows.getD i noRow).says ≠ 2) : tick1 s i = s := by unfold tick1; rw [if_neg h]
theorem tickN_quiet (s : G) : ∀ k, (∀ i, i < k → (s.rows.getD i noRow).says ≠ 2) → tickN s k = s
  | 0, _ => rfl
  | k + 1, h => by
    show tick1 (tickN s k) k = s
    rw [tickN_quiet s k (fun i hi => h i (by omega))]
    exact tick1_quiet s k (h k (by omega))
theorem Far.upd_le {B : Nat} {Z : List Nat} {w0 a b : World} (h : Far B Z a b) (hB : w0.heap.size ≤ B) (u : Upd [] w0 a) : Upd [] w0 b := by
  obtain ⟨S, v, _, s2⟩ := h
  exact u.trans v (fun x hx => .inr (Nat.le_trans hB (s2 x hx)))
def rows3 (sa : Nat) : List Row := [⟨1, 0, 1⟩, ⟨2, 0, sa⟩, ⟨3, 0, 1⟩]
/-- Node 1, that suspects node 2 for t ticks. -/
def Susp (tk t : Nat) (s : G) : Prop := s.me = 1 ∧ s.ticks = tk ∧ s.rows = rows3 2 ∧ s.since 2 = t ∧ ∀ x, s.since x ≤ 100
theorem susp_tick {tk t : Nat} {s : G} (h : Susp tk t s) (ht : t < tk) (h8 : tk ≤ 100) : (t + 1 < tk → Susp tk (t + 1) (tickN s 3)) ∧ (tk ≤ t + 1 → (tickN s 3).rows = rows3 3 ∧ (tickN s 3).me = 1 ∧ ∀ x, (tickN s 3).since x ≤ 100) := by
  obtain ⟨h1, h2, h3, h4, h5⟩ := h
  have e0 : tick1 s 0 = s := tick1_quiet s 0 (by rw [h3]; decide)
  have n1 : (s.rows.getD 1 noRow).node = 2 := by rw [h3]; rfl
  have e : tickN s 3 = tick1 (tick1 s 1) 2 := by
    show tick1 (tick1 (tick1 s 0) 1) 2 = _
    rw [e0]
  have e1 : tick1 s 1 = if s.ticks ≤ s.since 2 + 1 then { s with rows := sayAt s.rows 1 3, since := at1 (at1 s.since 2 (s.since 2 + 1)) 2 0 } else { s with since := at1 s.since 2 (s.since 2 + 1) } := by
    unfold tick1
    rw [if_pos (by rw [h3]; rfl), n1]
  constructor
  · intro hlt
    have e2 : tick1 s 1 = { s with since := at1 s.since 2 (t + 1) } := by rw [e1, h4, if_neg (by omega)]
    have e3 : tickN s 3 = { s with since := at1 s.since 2 (t + 1) } := by
      rw [e, e2]
      exact tick1_quiet _ 2 (by show (s.rows.getD 2 noRow).says ≠ 2; rw [h3]; decide)
    rw [e3]
    refine ⟨h1, h2, h3, by simp [at1], fun x => ?_⟩
    show at1 s.since 2 (t + 1) x ≤ 100
    unfold at1
    split
    · omega
    · exact h5 x
  · intro hge
    have e2 : tick1 s 1 = { s with rows := rows3 3, since := at1 (at1 s.since 2 (t + 1)) 2 0 } := by
      rw [e1, h4, if_pos (by omega), h3]
      rfl
    have e3 : tickN s 3 = { s with rows := rows3 3, since := at1 (at1 s.since 2 (t + 1)) 2 0 } := by
      rw [e, e2]
      exact tick1_quiet _ 2 (by show ((rows3 3).getD 2 noRow).says ≠ 2; decide)
    rw [e3]
    refine ⟨rfl, h1, fun x => ?_⟩
    show at1 (at1 s.since 2 (t + 1)) 2 0 x ≤ 100
    unfold at1
    split
    · omega
    · exact h5 x
theorem rows3_full (sa : Nat) : Full 3 (rows3 sa) := ⟨rfl, fun k hk => by
  have : k = 0 ∨ k = 1 ∨ k = 2 := by omega
  rcases this with rfl | rfl | rfl <;> rfl⟩
theorem rows3_wf (sa : Nat) (h1 : 1 ≤ sa) (h3 : sa ≤ 3) : WF (rows3 sa) := by
  refine ⟨fun i j hij hj => ?_, by simp [rows3], fun i hi => ?_⟩
  · have hj : j < 3 := hj
    rw [(rows3_full sa).2 i (by omega), (rows3_full sa).2 j hj]; omega
  · have hi : i < 3 := hi
    have : i = 0 ∨ i = 1 ∨ i = 2 := by omega
    rcases this with rfl | rfl | rfl
    · exact ⟨by simp [rows3], by simp [rows3], by simp [rows3], by simp [rows3], by simp [rows3]⟩
    · exact ⟨by simp [rows3], by simp [rows3], by simp [rows3], h1, h3⟩
    · exact ⟨by simp [rows3], by simp [rows3], by simp [rows3], by simp [rows3], by simp [rows3]⟩

set_option maxHeartbeats 16000000 in
set_option maxRecDepth 100000 in
theorem dead_walk (a b : Int) (w : World) : Calls Try.prog 7 #[.int .i64 a, .int .i64 b] w fun e w' => e = .returned (.bool true) ∧ Upd [] w w' := by
  go_enter Try.func7, Try.ntmps7
  go_wp2_with fail
  refine (begun_true w).mono ?_
  rintro e w1 ⟨rfl, hu⟩
  have U1 := hid hu
  clear hu
  go_wp2_with fail
  refine (rest_some a 100 w1 (by decide) (by decide)).mono ?_
  rintro e w' ⟨r, hr, -, rfl, rfl⟩
  obtain ⟨tk, htk⟩ : ∃ tk, tk = r + 1 := ⟨_, rfl⟩
  have hw : IntKind.i64.wrap (1 + (r : Int)) = (tk : Int) := by rw [IntWalk.i64_in _ (by omega)]; omega
  have GA := hid (gossips_any 3 tk w1 (by decide) (by decide) (by omega) (by omega))
  have HTK := hid (show 1 ≤ tk ∧ tk ≤ 100 by omega)
  clear htk
  go_wp2_with fail
  refine GA.out.mono ?_
  rintro e w2 ⟨v, g, s, rfl, ho, hn, hb, hu⟩
  obtain ⟨q, k, e, -⟩ := ptr_at ho (i := 0) (by decide)
  subst e
  obtain ⟨B, hB⟩ : ∃ B, B = w1.heap.size := ⟨_, rfl⟩
  rw [← hB] at ho hn
  have HO := hid ho
  have HN := hid hn
  have HB := hid hb
  have HBS := hid hB
  have U2 := hid (U1.out.trans hu (fun x hx => by cases hx))
  have hBw2 : B ≤ w2.heap.size := by rw [hB]; exact hu.size
  have HBW := hid hBw2
  clear ho hn hb hu GA hw hr hB hBw2
  go_wp2_with fail
  refine (rest_some b 5 w2 (by decide) (by decide)).mono ?_
  rintro e w' ⟨c, hc, -, rfl, rfl⟩
  go_wp2_with fail
  go_loopg [27] c (fun d v27 wr => ∃ (i : Nat) (s : Nat → G), v27 = .int .i64 (i : Int) ∧ i ≤ c ∧ Hid (i + d = c) ∧ Hid (wr.ownsRow B 55 1 (.slice (some ⟨q, 0, none⟩) 3 k) 3 (ptrs g 3)) ∧ Hid (Net B [q] 3 wr g s) ∧ Hid (Begun 3 tk 0 (s 0)) ∧ Hid (Far B [q] w2 wr))
  case atStart => exact ⟨0, s, rfl, by omega, hid (by omega), HO, hid HN.out, hid (HB.out 0 (by decide)), hid (Far.refl _ _ _)⟩
  case round =>
    clear HO HN HB
    obtain ⟨i, s, rfl, hi, Hd, HO, HN, HB, HF⟩ := hrel
    by_cases hin : i < c
    · have hi' : (i : Int) < (c : Int) := by omega
      obtain ⟨q', k', e, cp⟩ := ptr_at HO.out (i := 0) (by decide)
      cases e
      have hr := HB.out.2.2.1
      have TA := net_tick HN.out (i := 0) (by decide) (by have := HF.out.size; have := HBW.out; omega) (by rw [hr]; decide) (fun x => by rw [HB.out.2.2.2.2 x]; omega)
      have eq : tickN (s 0) (s 0).rows.length = s 0 := by rw [hr]; exact tickN_quiet _ _ (fun j hj => by rw [hr]; rw [rall_len] at hj; rw [rall_get 3 j hj]; simp)
      rw [eq] at TA
      have TAH := hid TA
      clear TA hr eq
      go_wp2_with fail
      refine TAH.out.mono ?_
      rintro e w3 ⟨rfl, h1, h2⟩
      have H1 := hid h1
      have H2 := hid h2
      clear h1 h2
      go_wp2_with fail
      go_roundg (c - (i + 1))
      case measure => have := Hd.out; omega
      case rel => exact ⟨i + 1, _, by go_num, by omega, hid (by omega), hid (H2.out.own HO.out (fun x hx => by simp [Value.ownBlock] at hx; simp [hx])), H1, hid (by rw [upf_at]; exact HB.out), hid (HF.out.trans H2.out)⟩
    · obtain ⟨q', k', e, cp⟩ := ptr_at HO.out (i := 0) (by decide)
      cases e
      have hr := HB.out.2.2.1
      have DA := hid (net_doubt HN.out (i := 0) (by decide) (by have := HF.out.size; have := HBW.out; omega) (by rw [hr]; exact rall_wf 3 (by decide) (by decide)) (by rw [hr]; exact rall_full 3) (k := 1) (t := 2) (by decide) rfl (by rw [HB.out.1]; decide) (by rw [hr]; rfl))
      have SU := hid (show Susp tk 0 { s 0 with rows := sayAt (s 0).rows 1 2, since := at1 (s 0).since 2 0 } from ⟨HB.out.1, HB.out.2.1, by show sayAt (s 0).rows 1 2 = _; rw [hr]; rfl, by simp [at1], fun x => by
        show at1 (s 0).since 2 0 x ≤ 100
        unfold at1
        split
        · omega
        · rw [HB.out.2.2.2.2 x]; omega⟩)
      have hni : ¬ (i : Int) < (c : Int) := by omega
      clear hr hin hi Hd
      go_wp2_with fail
      refine DA.out.mono ?_
      rintro e w3 ⟨rfl, h1, h2⟩
      have HN3 := hid h1
      have HF3 := hid (HF.out.trans h2)
      have HO3 := hid (h2.own HO.out (fun x hx => by simp [Value.ownBlock] at hx; simp [hx]))
      clear h1 h2 DA cp HO HN HB HF
      go_wp2_with fail
      go_loopg [40] tk (fun d v40 wr => ∃ (t : Nat) (s : Nat → G), v40 = .int .i64 (t : Int) ∧ t ≤ tk ∧ Hid (t + d = tk) ∧ Hid (wr.ownsRow B 55 1 (.slice (some ⟨q, 0, none⟩) 3 k) 3 (ptrs g 3)) ∧ Hid (Net B [q] 3 wr g s) ∧ Hid (t < tk → Susp tk t (s 0)) ∧ Hid (t = tk → (s 0).rows = rows3 3) ∧ Hid (Far B [q] w2 wr))
      case atStart => exact ⟨0, _, rfl, by omega, hid (by omega), HO3, HN3, hid (fun _ => by rw [upf_at]; exact SU.out), hid (fun e => by have := HTK.out; omega), HF3⟩
      case round =>
        clear HO3 HN3 SU HF3
        obtain ⟨t, s, rfl, ht, Hd, HO, HN, HS, HD, HF⟩ := hrel
        obtain ⟨q', k', e, cp⟩ := ptr_at HO.out (i := 0) (by decide)
        cases e
        by_cases htn : t < tk
        · have ht' : (t : Int) < (tk : Int) := by omega
          have hs := HS.out htn
          have hr := hs.2.2.1
          have SA := hid (net_says HN.out (i := 0) (by decide) (by rw [hr]; exact rows3_wf 2 (by decide) (by decide)) (by rw [hr]; exact rows3_full 2) (k := 1) (t := 2) (by decide) rfl)
          rw [hr] at SA
          have HTN := hid htn
          have HSS := hid hs
          clear hr hs htn
          go_wp2_with fail
          refine SA.out.mono ?_
          rintro e w4 ⟨rfl, hu⟩
          have HU4 := hid hu
          have cp4 := hu.cell cp (by simp)
          have hr := HSS.out.2.2.1
          have TA := net_tick (HN.out.new hu) (i := 0) (by decide) (by have := HF.out.size; have := HBW.out; have := hu.size; omega) (by rw [hr]; decide) (fun x => by have := HSS.out.2.2.2.2 x; omega)
          rw [show (s 0).rows.length = 3 by rw [hr]; rfl] at TA
          have TAH := hid TA
          clear TA hr hu cp SA
          go_wp2_with fail
          refine TAH.out.mono ?_
          rintro e w5 ⟨rfl, h1, h2⟩
          have H1 := hid h1
          have H2 := hid ((Far.of_nil HU4.out).trans h2)
          clear h1 h2 TAH
          go_wp2_with fail
          go_roundg (tk - (t + 1))
          case measure => have := Hd.out; have := HTN.out; omega
          case rel =>
            have st := susp_tick HSS.out HTN.out HTK.out.2
            have l1 := HTK.out.2
            have l2 := HTN.out
            have hv : wrap64 ((t : Int) + 1) = ((t + 1 : Nat) : Int) := by unfold wrap64; omega
            exact ⟨t + 1, _, by rw [hv], by omega, hid (by omega), hid (H2.out.own HO.out (fun x hx => by simp [Value.ownBlock] at hx; simp [hx])), H1, hid (fun hlt => by rw [upf_at]; exact st.1 hlt), hid (fun e => by rw [upf_at]; exact (st.2 (by omega)).1), hid (HF.out.trans H2.out)⟩
        · have hr := HD.out (by omega)
          have SA := hid (net_says HN.out (i := 0) (by decide) (by rw [hr]; exact rows3_wf 3 (by decide) (by decide)) (by rw [hr]; exact rows3_full 3) (k := 1) (t := 2) (by decide) rfl)
          have SB := hid (fun w' (u : Upd [] wr w') => net_says (HN.out.new u) (i := 0) (by decide) (by rw [hr]; exact rows3_wf 3 (by decide) (by decide)) (by rw [hr]; exact rows3_full 3) (k := 2) (t := 3) (by decide) rfl)
          rw [hr] at SA SB
          clear hr
          go_wp2_with fail
          refine SA.out.mono ?_
          rintro e w4 ⟨rfl, hu⟩
          have HU4 := hid hu
          have cp4 := hu.cell cp (by simp)
          clear hu cp SA
          go_wp2_with fail
          refine (SB.out w4 HU4.out).mono ?_
          rintro e w5 ⟨rfl, hu⟩
          have HU5 := hid hu
          clear hu SB
          go_wp2_with fail
          go_ret
          exact ⟨rfl, ((HF.out.upd_le (by rw [HBS.out]; exact U1.out.size) U2.out).trans HU4.out (fun x hx => by cases hx)).trans HU5.out (fun x hx => by cases hx)⟩
end Go.Proofs.Ytgkjkgooonicbaa.Gs
