/- Gossip: one node hears another; the walk of the statement GossipTurns. -/
import Derived.Test.YtgkjkgooonicbaaGu
namespace Go.Proofs.Ytgkjkgooonicbaa.Gs
open Go Go.RowKit Go.Proofs.Ytgkjkgooonicbaa Go.Proofs.Ytgkjkgooonicbaa.K Go.Proofs.Ytgkjkgooonicbaa.M Go.Proofs.Ytgkjkgooonicbaa.O Go.Proofs.Ytgkjkgooonicbaa.R

section
variable {B n : Nat} {Z : List Nat} {w : World} {g : Nat → Nat} {s : Nat → G}
theorem Net.drop (h : Net B Z n w g s) {Z' : List Nat} (hz : ∀ z ∈ Z', z ∈ Z) : Net B Z' n w g s :=
  h.turn (Upd.refl [] w) (fun x hx => by cases hx) (fun z hz' => ⟨.inl (hz z hz'), h.zlt z (hz z hz')⟩)
/-- State: a copy of the rows, in a block of its own, kept apart from now on. -/
theorem net_state (h : Net B Z n w g s) {i : Nat} (hi : i < n) (hs : WF (s i).rows) :
    Calls Try.prog 34 #[.pointer (some ⟨g i, 0, none⟩)] w fun e w' => ∃ r k, e = .returned (.slice (some ⟨r, 0, none⟩) (s i).rows.length k) ∧ w'.ownsRow w.heap.size 65 3 (.slice (some ⟨r, 0, none⟩) (s i).rows.length k) (s i).rows.length (rowCells (s i).rows) ∧ Net B (r :: Z) n w' g s ∧ Upd [] w w' := by
  obtain ⟨F, hg, -, -⟩ := h.step hi
  refine (state_any hg hs.2.1 (by have := hs.len; omega)).mono ?_
  rintro e w' ⟨v', rfl, ho, hu⟩
  obtain ⟨r, k, cur, ev, -⟩ := own_some (own_mono ho (Nat.zero_le _)) hs.2.1
  subst ev
  refine ⟨r, k, rfl, ho, h.turn hu (fun x hx => by cases hx) (fun z hz => ?_), hu⟩
  rcases List.mem_cons.1 hz with rfl | hz
  · exact ⟨.inr (own_ge ho _ rfl), own_lt ho _ rfl⟩
  · exact ⟨.inl hz, by have := h.zlt z hz; have := hu.size; omega⟩
theorem net_merge (h : Net B Z n w g s) {i : Nat} (hi : i < n) (hB : B ≤ w.heap.size) (hs : WF (s i).rows) (hm : 1 ≤ (s i).me ∧ (s i).me ≤ 8) (a : Option Addr) (l : List Row) (m k : Nat) (hn : m = l.length) (hl : Told l) (hr : RowAt w a l) (hz : ∀ x o, a = some ⟨x, o, none⟩ → x ∈ Z) :
    Calls Try.prog 37 #[.pointer (some ⟨g i, 0, none⟩), .slice a m k] w fun e w' => e = .returned (.int .i64 0) ∧ Net B Z n w' g (upf s i (gmerge (s i) l)) ∧ Far B Z w w' := by
  obtain ⟨F, hg, hF, ST⟩ := h.step hi
  refine (merge_any hg hs hm a l m k hn hl hr (fun x o e => ⟨fun hx => (hF x hx).1 (hz x o e), h.zlt x (hz x o e)⟩)).mono ?_
  rintro e w' ⟨rfl, F', h1, h2, h3⟩
  exact ⟨rfl, ST w' F' _ h1 h2 h3 hB⟩
end
/-- The rows of two nodes, the second one in turn k. -/
def rowsT (k sa : Nat) : List Row := [⟨1, 0, 1⟩, ⟨2, k, sa⟩]
theorem rowsT_full (k sa : Nat) : Full 2 (rowsT k sa) := ⟨rfl, fun j hj => by
  have : j = 0 ∨ j = 1 := by omega
  rcases this with rfl | rfl <;> rfl⟩
theorem rowsT_wf (k sa : Nat) (hk : k ≤ 1000) (h1 : 1 ≤ sa) (h3 : sa ≤ 3) : WF (rowsT k sa) := by
  refine ⟨fun i j hij hj => ?_, by simp [rowsT], fun i hi => ?_⟩
  · have hj : j < 2 := hj
    rw [(rowsT_full k sa).2 i (by omega), (rowsT_full k sa).2 j hj]; omega
  · have hi : i < 2 := hi
    have : i = 0 ∨ i = 1 := by omega
    rcases this with rfl | rfl
    · exact ⟨by simp [rowsT], by simp [rowsT], by simp [rowsT], by simp [rowsT], by simp [rowsT]⟩
    · exact ⟨by simp [rowsT], by simp [rowsT], by simp [rowsT]; omega, h1, h3⟩
theorem rowsT_hear (k sa : Nat) (hk : k ≤ 1000) (h2 : 2 ≤ sa) : rmerge 2 (rowsT k 1) (rowsT k sa) = rowsT (k + 1) 1 := by
  have e1 : rput 2 (rowsT k 1) ⟨1, 0, 1⟩ = rowsT k 1 := by
    rw [(rowsT_full k 1).rput (k := 0) (by decide) rfl]
    rw [if_neg (by simp [newer, rowsT])]
  have e2 : rput 2 (rowsT k 1) ⟨2, k, sa⟩ = rowsT (k + 1) 1 := by
    rw [(rowsT_full k 1).rput (k := 1) (by decide) rfl]
    rw [if_pos (by simp [newer, rowsT]; omega), if_pos rfl, if_neg (by simp only; omega)]
    simp only [rowsT]
    rw [Nat.min_eq_left (by omega)]
    rfl
  show rput 2 (rput 2 (rowsT k 1) ⟨1, 0, 1⟩) ⟨2, k, sa⟩ = _
  rw [e1, e2]
theorem rowsT_back (k sa : Nat) : rmerge 1 (rowsT k sa) (rowsT (k + 1) 1) = rowsT (k + 1) 1 := by
  have e1 : rput 1 (rowsT k sa) ⟨1, 0, 1⟩ = rowsT k sa := by
    rw [(rowsT_full k sa).rput (k := 0) (by decide) rfl]
    rw [if_neg (by simp [newer, rowsT])]
  have e2 : rput 1 (rowsT k sa) ⟨2, k + 1, 1⟩ = rowsT (k + 1) 1 := by
    rw [(rowsT_full k sa).rput (k := 1) (by decide) rfl]
    rw [if_pos (by simp [newer, rowsT]), if_neg (by simp)]
    rfl
  show rput 1 (rput 1 (rowsT k sa) ⟨1, 0, 1⟩) ⟨2, k + 1, 1⟩ = _
  rw [e1, e2]
theorem tick1_rows (s : G) (i : Nat) : (tick1 s i).me = s.me ∧ (tick1 s i).ticks = s.ticks ∧ ((tick1 s i).rows = s.rows ∨ ((s.rows.getD i noRow).says = 2 ∧ (tick1 s i).rows = sayAt s.rows i 3)) := by
  unfold tick1
  split
  · rename_i h
    split
    · exact ⟨rfl, rfl, .inr ⟨h, rfl⟩⟩
    · exact ⟨rfl, rfl, .inl rfl⟩
  · exact ⟨rfl, rfl, .inl rfl⟩
theorem tick_T {s : G} {k sa c : Nat} (h : s.rows = rowsT k sa) (h2 : 2 ≤ sa) (h3 : sa ≤ 3) (hc : ∀ x, s.since x ≤ c) : ∃ sa', 2 ≤ sa' ∧ sa' ≤ 3 ∧ (tickN s 2).rows = rowsT k sa' ∧ (tickN s 2).me = s.me ∧ ∀ x, (tickN s 2).since x ≤ c + 1 := by
  have e : tickN s 2 = tick1 s 1 := by
    show tick1 (tick1 s 0) 1 = _
    rw [tick1_quiet s 0 (by rw [h]; simp [rowsT])]
  rw [e]
  obtain ⟨m1, _, m3⟩ := tick1_rows s 1
  rcases m3 with q | ⟨_, q⟩
  · exact ⟨sa, h2, h3, q.trans h, m1, tick1_since s 1 c hc⟩
  · exact ⟨3, by decide, by decide, q.trans (by rw [h]; rfl), m1, tick1_since s 1 c hc⟩
structure TT (t sa c : Nat) (s : Nat → G) : Prop where
  m0 : (s 0).me = 1
  m1 : (s 1).me = 2
  r0 : (s 0).rows = rowsT t sa
  r1 : (s 1).rows = rowsT t 1
  sn : ∀ x, (s 0).since x ≤ c
set_option maxHeartbeats 16000000 in
set_option maxRecDepth 100000 in
theorem turns_walk (a b : Int) (w : World) : Calls Try.prog 10 #[.int .i64 a, .int .i64 b] w fun e w' => e = .returned (.bool true) ∧ Upd [] w w' := by
  go_enter Try.func10, Try.ntmps10
  go_wp2_with fail
  refine (begun_true w).mono ?_
  rintro e w1 ⟨rfl, hu⟩
  have U1 := hid hu
  clear hu
  have GA := hid (gossips_any 2 3 w1 (by decide) (by decide) (by omega) (by omega))
  go_wp2_with fail
  refine GA.out.mono ?_
  rintro e w2 ⟨v, g, s, rfl, ho, hn, hb, hu⟩
  obtain ⟨q, k, e, -⟩ := ptr_at ho (i := 0) (by decide)
  subst e
  obtain ⟨B, hB⟩ : ∃ B, B = w1.heap.size := ⟨_, rfl⟩
  rw [← hB] at ho hn
  have HO := hid ho
  have HN := hid hn
  have HT := hid (show TT 0 1 0 s from ⟨(hb 0 (by decide)).1, (hb 1 (by decide)).1, (hb 0 (by decide)).2.2.1, (hb 1 (by decide)).2.2.1, fun x => by rw [(hb 0 (by decide)).2.2.2.2 x]; omega⟩)
  have HBS := hid hB
  have U2 := hid (U1.out.trans hu (fun x hx => by cases hx))
  have hBw2 : B ≤ w2.heap.size := by rw [hB]; exact hu.size
  have HBW := hid hBw2
  clear ho hn hb hu GA hB hBw2
  go_wp2_with fail
  refine (rest_some a 20 w2 (by decide) (by decide)).mono ?_
  rintro e w' ⟨c, hc, -, rfl, rfl⟩
  go_wp2_with fail
  go_loopg [18] c (fun d v18 wr => ∃ (t : Nat) (s : Nat → G), v18 = .int .i64 (t : Int) ∧ t ≤ c ∧ Hid (t + d = c) ∧ Hid (wr.ownsRow B 55 1 (.slice (some ⟨q, 0, none⟩) 2 k) 2 (ptrs g 2)) ∧ Hid (Net B [q] 2 wr g s) ∧ Hid (TT t 1 (10 * t) s) ∧ Hid (Far B [q] w2 wr))
  case atStart => exact ⟨0, s, rfl, by omega, hid (by omega), HO, hid HN.out, HT, hid (Far.refl _ _ _)⟩
  case round =>
    clear HO HN HT
    obtain ⟨t, s, rfl, ht, Hd, HO, HN, HT, HF⟩ := hrel
    by_cases htn : t < c
    · have ht' : (t : Int) < (c : Int) := by omega
      obtain ⟨q', k', e, cp⟩ := ptr_at HO.out (i := 0) (by decide)
      cases e
      have hr := HT.out.r0
      have DA := hid (net_doubt HN.out (i := 0) (by decide) (by have := HF.out.size; have := HBW.out; omega) (by rw [hr]; exact rowsT_wf t 1 (by omega) (by decide) (by decide)) (by rw [hr]; exact rowsT_full t 1) (k := 1) (t := 2) (by decide) rfl (by rw [HT.out.m0]; decide) (by rw [hr]; rfl))
      clear hr
      go_wp2_with fail
      refine DA.out.mono ?_
      rintro e w3 ⟨rfl, h1, h2⟩
      have HN3 := hid h1
      have HF3 := hid (HF.out.trans h2)
      have HO3 := hid (h2.own HO.out (fun x hx => by simp [Value.ownBlock] at hx; simp [hx]))
      have HT3 := hid (show TT t 2 (10 * t) (upf s 0 { s 0 with rows := sayAt (s 0).rows 1 2, since := at1 (s 0).since 2 0 }) from
        ⟨by rw [upf_at]; exact HT.out.m0, by rw [upf_ne _ _ _ _ (by decide)]; exact HT.out.m1, by rw [upf_at]; show sayAt (s 0).rows 1 2 = _; rw [HT.out.r0]; rfl, by rw [upf_ne _ _ _ _ (by decide)]; exact HT.out.r1, fun x => by
          rw [upf_at]
          show at1 (s 0).since 2 0 x ≤ _
          unfold at1
          split
          · omega
          · exact HT.out.sn x⟩)
      clear h1 h2 DA cp HO HN HF HT
      go_wp2_with fail
      refine (rest_some b 5 w3 (by decide) (by decide)).mono ?_
      rintro e w' ⟨c2, hc2, -, rfl, rfl⟩
      go_wp2_with fail
      go_loopg [28] c2 (fun d v28 wr => ∃ (j sa : Nat) (s : Nat → G), v28 = .int .i64 (j : Int) ∧ j ≤ c2 ∧ Hid (j + d = c2) ∧ Hid (2 ≤ sa ∧ sa ≤ 3) ∧ Hid (wr.ownsRow B 55 1 (.slice (some ⟨q, 0, none⟩) 2 k) 2 (ptrs g 2)) ∧ Hid (Net B [q] 2 wr g s) ∧ Hid (TT t sa (10 * t + j) s) ∧ Hid (Far B [q] w2 wr))
      case atStart => exact ⟨0, 2, _, rfl, by omega, hid (by omega), hid (by decide), HO3, HN3, HT3, HF3⟩
      case round =>
        clear HO3 HN3 HT3 HF3
        obtain ⟨j, sa, s, rfl, hj, Hj, HSA, HO, HN, HT, HF⟩ := hrel
        obtain ⟨q', k', e, cp⟩ := ptr_at HO.out (i := 0) (by decide)
        cases e
        by_cases hjn : j < c2
        · have hj' : (j : Int) < (c2 : Int) := by omega
          have hr := HT.out.r0
          have TA := net_tick HN.out (i := 0) (by decide) (by have := HF.out.size; have := HBW.out; omega) (by rw [hr]; simp [rowsT]) (fun x => by have := HT.out.sn x; omega)
          rw [show (s 0).rows.length = 2 by rw [hr]; rfl] at TA
          have TAH := hid TA
          clear TA hr
          go_wp2_with fail
          refine TAH.out.mono ?_
          rintro e w5 ⟨rfl, h1, h2⟩
          have H1 := hid h1
          have H2 := hid h2
          clear h1 h2 TAH
          go_wp2_with fail
          go_roundg (c2 - (j + 1))
          case measure => have := Hj.out; omega
          case rel =>
            obtain ⟨sa', s2, s3, sr, sm, ss⟩ := tick_T HT.out.r0 HSA.out.1 HSA.out.2 HT.out.sn
            exact ⟨j + 1, sa', _, by go_num, by omega, hid (by omega), hid ⟨s2, s3⟩, hid (H2.out.own HO.out (fun x hx => by simp [Value.ownBlock] at hx; simp [hx])), H1, hid ⟨by rw [upf_at, sm]; exact HT.out.m0, by rw [upf_ne _ _ _ _ (by decide)]; exact HT.out.m1, by rw [upf_at]; exact sr, by rw [upf_ne _ _ _ _ (by decide)]; exact HT.out.r1, fun x => by rw [upf_at]; exact ss x⟩, hid (HF.out.trans H2.out)⟩
        · obtain ⟨q', k', e, cp1⟩ := ptr_at HO.out (i := 1) (by decide)
          cases e
          have hnj : ¬ (j : Int) < (c2 : Int) := by omega
          have HBR := hid (show B ≤ wr.heap.size by have := HF.out.size; have := HBW.out; omega)
          have PT := hid (fun wz (f : Far B [q] wr wz) => (⟨(ptr_at (f.own HO.out (fun x hx => by simp [Value.ownBlock] at hx; simp [hx])) (i := 0) (by decide)), (ptr_at (f.own HO.out (fun x hx => by simp [Value.ownBlock] at hx; simp [hx])) (i := 1) (by decide))⟩ : (∃ q' k', Value.slice (some ⟨q, 0, none⟩) 2 k = .slice (some ⟨q', 0, none⟩) 2 k' ∧ wz.cell? ⟨q', 0, none⟩ = some (.pointer (some ⟨g 0, 0, none⟩))) ∧ (∃ q' k', Value.slice (some ⟨q, 0, none⟩) 2 k = .slice (some ⟨q', 0, none⟩) 2 k' ∧ wz.cell? ⟨q', 1, none⟩ = some (.pointer (some ⟨g 1, 0, none⟩)))))
          have KEEP := hid (show ∀ wz, Far B [q] wr wz → wz.cell? ⟨q, 0, none⟩ = some (.pointer (some ⟨g 0, 0, none⟩)) ∧ wz.cell? ⟨q, 1, none⟩ = some (.pointer (some ⟨g 1, 0, none⟩)) from fun wz f => by
            obtain ⟨⟨_, _, e, h0⟩, ⟨_, _, e', h1⟩⟩ := PT.out wz f
            cases e
            cases e'
            exact ⟨h0, h1⟩)
          clear PT cp cp1
          go_upto_region 15 with (fail)
          refine J.J_begin (fun wz => wz.cell? ⟨q, 0, none⟩ = some (.pointer (some ⟨g 0, 0, none⟩)) ∧ wz.cell? ⟨q, 1, none⟩ = some (.pointer (some ⟨g 1, 0, none⟩))) 19 (by kernel_rfl) ⟨by kernel_rfl, by kernel_rfl, by kernel_rfl⟩ (KEEP.out _ (Far.of_nil ((Upd.refl [] wr).drew))) (fun LAST HS => ?_)
          refine J.J_take (i := 0) (v := ?_) LAST (by rfl) (by decide) (by kernel_rfl) (by kernel_rfl) (by intro _ _ _ h; exact h) HS (Or.inl ⟨by rfl, ?_⟩) ?_
          rotate_left
          · intro w hSw; (try dsimp only at hSw); go_simp; try with_reducible rfl
          try simp only [Act.put, List.setIfInBounds_toArray, List.set_cons_zero, List.set_cons_succ]
          refine J.J_take (i := 1) (v := ?_) LAST (by rfl) (by decide) (by kernel_rfl) (by kernel_rfl) (by intro _ _ _ h; exact h) HS (Or.inl ⟨by rfl, ?_⟩) ?_
          rotate_left
          · intro w hSw; (try dsimp only at hSw); go_simp; try with_reducible rfl
          try simp only [Act.put, List.setIfInBounds_toArray, List.set_cons_zero, List.set_cons_succ]
          refine J.J_take (i := 2) (v := ?_) LAST (by rfl) (by decide) (by kernel_rfl) (by kernel_rfl) (by intro _ _ _ h; exact h) HS (Or.inl ⟨by rfl, ?_⟩) ?_
          rotate_left
          · intro w hSw; (try dsimp only at hSw); go_simp; try with_reducible rfl
          try simp only [Act.put, List.setIfInBounds_toArray, List.set_cons_zero, List.set_cons_succ]
          refine J.J_take (i := 3) (v := ?_) LAST (by rfl) (by decide) (by kernel_rfl) (by kernel_rfl) (by intro _ _ _ h; exact h) HS (Or.inl ⟨by rfl, ?_⟩) ?_
          rotate_left
          · intro w hSw; (try dsimp only at hSw); go_simp; try with_reducible rfl
          try simp only [Act.put, List.setIfInBounds_toArray, List.set_cons_zero, List.set_cons_succ]
          refine J.J_take (i := 4) (v := ?_) LAST (by rfl) (by decide) (by kernel_rfl) (by kernel_rfl) (by intro _ _ _ h; exact h) HS (Or.inl ⟨by rfl, ?_⟩) ?_
          rotate_left
          · intro w hSw; (try dsimp only at hSw); go_simp; try with_reducible rfl
          try simp only [Act.put, List.setIfInBounds_toArray, List.set_cons_zero, List.set_cons_succ]
          refine J.J_take (i := 5) (v := ?_) LAST (by rfl) (by decide) (by kernel_rfl) (by kernel_rfl) (by intro _ _ _ h; exact h) HS (Or.inl ⟨by rfl, ?_⟩) ?_
          rotate_left
          · intro w hSw; (try dsimp only at hSw); go_simp; try with_reducible rfl
          try simp only [Act.put, List.setIfInBounds_toArray, List.set_cons_zero, List.set_cons_succ]
          refine J.J_one (i := 6) (by rfl) (by decide) (by kernel_rfl) (fun KK hK => ?_)
          go_simp
          have W0 := hid (show WF (s 0).rows by rw [HT.out.r0]; exact rowsT_wf t sa (by omega) (by have := HSA.out; omega) HSA.out.2)
          have W1 := hid (show WF (s 1).rows by rw [HT.out.r1]; exact rowsT_wf t 1 (by omega) (by decide) (by decide))
          refine (net_state (HN.out.new ((Upd.refl [] wr).drew)) (i := 0) (by decide) W0.out).mono ?_
          rintro e w4 ⟨r4, k4, rfl, ho4, hn4, hu4⟩
          have A4 := hid (rowAt_own ho4)
          have N4 := hid hn4
          have F4 := hid (show Far B [q] wr w4 from Far.of_nil (((Upd.refl [] wr).drew).trans hu4 (fun x hx => by cases hx)))
          clear ho4 hn4 hu4
          go_simp
          have HS4 := KEEP.out _ F4.out
          refine hK.out _ _ HS4 ?_
          clear hK KK HS
          try simp only [List.setIfInBounds_toArray]
          refine J.J_one (i := 7) (by rfl) (by decide) (by kernel_rfl) (fun KK hK => ?_)
          go_simp
          refine (net_merge N4.out (i := 1) (by decide) (by have := F4.out.size; have := HBR.out; omega) W1.out (by rw [HT.out.m1]; decide) (some ⟨r4, 0, none⟩) (s 0).rows (s 0).rows.length k4 rfl W0.out.told A4.out (fun x o e => by cases e; simp)).mono ?_
          rintro e w5 ⟨rfl, hn5, hf5⟩
          obtain ⟨s5, hs5⟩ : ∃ s5, s5 = upf s 1 (gmerge (s 1) (s 0).rows) := ⟨_, rfl⟩
          rw [← hs5] at hn5
          have gm := gmerge_rmerge (s 0).rows (s 1)
          have R51 := hid (show (s5 1).rows = rowsT (t + 1) 1 by rw [hs5, upf_at, gm.1, HT.out.m1, HT.out.r1, HT.out.r0]; exact rowsT_hear t sa (by omega) HSA.out.1)
          have M51 := hid (show (s5 1).me = 2 by rw [hs5, upf_at, gm.2.1]; exact HT.out.m1)
          have E50 := hid (show s5 0 = s 0 by rw [hs5, upf_ne _ _ _ _ (by decide)])
          have N5 := hid (hn5.drop (Z' := [q]) (fun z hz => by simp at hz; simp [hz]))
          have F5 := hid (F4.out.trans (hf5.mono (Z' := [q]) (fun z hz => by simp at hz; simp [hz])))
          clear hn5 hf5 hs5 gm
          go_simp
          have HS5 := KEEP.out _ F5.out
          refine hK.out _ _ HS5 ?_
          clear hK KK HS4
          try simp only [List.setIfInBounds_toArray]
          refine J.J_take (i := 8) (v := ?_) LAST (by rfl) (by decide) (by kernel_rfl) (by kernel_rfl) (by intro _ _ _ h; exact h) HS5 (Or.inl ⟨by rfl, ?_⟩) ?_
          rotate_left
          · intro w hSw; (try dsimp only at hSw); go_simp; try with_reducible rfl
          try simp only [Act.put, List.setIfInBounds_toArray, List.set_cons_zero, List.set_cons_succ]
          refine J.J_take (i := 9) (v := ?_) LAST (by rfl) (by decide) (by kernel_rfl) (by kernel_rfl) (by intro _ _ _ h; exact h) HS5 (Or.inl ⟨by rfl, ?_⟩) ?_
          rotate_left
          · intro w hSw; (try dsimp only at hSw); go_simp; try with_reducible rfl
          try simp only [Act.put, List.setIfInBounds_toArray, List.set_cons_zero, List.set_cons_succ]
          refine J.J_take (i := 10) (v := ?_) LAST (by rfl) (by decide) (by kernel_rfl) (by kernel_rfl) (by intro _ _ _ h; exact h) HS5 (Or.inl ⟨by rfl, ?_⟩) ?_
          rotate_left
          · intro w hSw; (try dsimp only at hSw); go_simp; try with_reducible rfl
          try simp only [Act.put, List.setIfInBounds_toArray, List.set_cons_zero, List.set_cons_succ]
          refine J.J_take (i := 11) (v := ?_) LAST (by rfl) (by decide) (by kernel_rfl) (by kernel_rfl) (by intro _ _ _ h; exact h) HS5 (Or.inl ⟨by rfl, ?_⟩) ?_
          rotate_left
          · intro w hSw; (try dsimp only at hSw); go_simp; try with_reducible rfl
          try simp only [Act.put, List.setIfInBounds_toArray, List.set_cons_zero, List.set_cons_succ]
          refine J.J_take (i := 12) (v := ?_) LAST (by rfl) (by decide) (by kernel_rfl) (by kernel_rfl) (by intro _ _ _ h; exact h) HS5 (Or.inl ⟨by rfl, ?_⟩) ?_
          rotate_left
          · intro w hSw; (try dsimp only at hSw); go_simp; try with_reducible rfl
          try simp only [Act.put, List.setIfInBounds_toArray, List.set_cons_zero, List.set_cons_succ]
          refine J.J_take (i := 13) (v := ?_) LAST (by rfl) (by decide) (by kernel_rfl) (by kernel_rfl) (by intro _ _ _ h; exact h) HS5 (Or.inl ⟨by rfl, ?_⟩) ?_
          rotate_left
          · intro w hSw; (try dsimp only at hSw); go_simp; try with_reducible rfl
          try simp only [Act.put, List.setIfInBounds_toArray, List.set_cons_zero, List.set_cons_succ]
          refine J.J_take (i := 14) (v := ?_) LAST (by rfl) (by decide) (by kernel_rfl) (by kernel_rfl) (by intro _ _ _ h; exact h) HS5 (Or.inl ⟨by rfl, ?_⟩) ?_
          rotate_left
          · intro w hSw; (try dsimp only at hSw); go_simp; try with_reducible rfl
          try simp only [Act.put, List.setIfInBounds_toArray, List.set_cons_zero, List.set_cons_succ]
          refine J.J_take (i := 15) (v := ?_) LAST (by rfl) (by decide) (by kernel_rfl) (by kernel_rfl) (by intro _ _ _ h; exact h) HS5 (Or.inl ⟨by rfl, ?_⟩) ?_
          rotate_left
          · intro w hSw; (try dsimp only at hSw); go_simp; try with_reducible rfl
          try simp only [Act.put, List.setIfInBounds_toArray, List.set_cons_zero, List.set_cons_succ]
          refine J.J_one (i := 16) (by rfl) (by decide) (by kernel_rfl) (fun KK hK => ?_)
          go_simp
          have W51 := hid (show WF (s5 1).rows by rw [R51.out]; exact rowsT_wf (t + 1) 1 (by omega) (by decide) (by decide))
          refine (net_state N5.out (i := 1) (by decide) W51.out).mono ?_
          rintro e w6 ⟨r6, k6, rfl, ho6, hn6, hu6⟩
          have A6 := hid (rowAt_own ho6)
          have N6 := hid hn6
          have F6 := hid (show Far B [q] wr w6 from F5.out.trans (Far.of_nil hu6))
          clear ho6 hn6 hu6
          go_simp
          have HS6 := KEEP.out _ F6.out
          refine hK.out _ _ HS6 ?_
          clear hK KK HS5
          try simp only [List.setIfInBounds_toArray]
          refine J.J_one (i := 17) (by rfl) (by decide) (by kernel_rfl) (fun KK hK => ?_)
          go_simp
          refine (net_merge N6.out (i := 0) (by decide) (by have := F6.out.size; have := HBR.out; omega) (by rw [E50.out]; exact W0.out) (by rw [E50.out, HT.out.m0]; decide) (some ⟨r6, 0, none⟩) (s5 1).rows (s5 1).rows.length k6 rfl W51.out.told A6.out (fun x o e => by cases e; simp)).mono ?_
          rintro e w7 ⟨rfl, hn7, hf7⟩
          obtain ⟨s7, hs7⟩ : ∃ s7, s7 = upf s5 0 (gmerge (s5 0) (s5 1).rows) := ⟨_, rfl⟩
          rw [← hs7] at hn7
          have gm := gmerge_rmerge (s5 1).rows (s5 0)
          have T7 := hid (show TT (t + 1) 1 (10 * (t + 1)) s7 from ⟨by rw [hs7, upf_at, gm.2.1, E50.out]; exact HT.out.m0, by rw [hs7, upf_ne _ _ _ _ (by decide)]; exact M51.out, by rw [hs7, upf_at, gm.1, E50.out, HT.out.m0, HT.out.r0, R51.out]; exact rowsT_back t sa, by rw [hs7, upf_ne _ _ _ _ (by decide)]; exact R51.out, fun x => by
            rw [hs7, upf_at]
            have h1 := gm.2.2.2.2 x
            rw [E50.out] at h1 ⊢
            have h2 := HT.out.sn x
            omega⟩)
          have N7 := hid (hn7.drop (Z' := [q]) (fun z hz => by simp at hz; simp [hz]))
          have F7 := hid (F6.out.trans (hf7.mono (Z' := [q]) (fun z hz => by simp at hz; simp [hz])))
          clear hn7 hf7 hs7 gm
          go_simp
          have HS7 := KEEP.out _ F7.out
          refine hK.out _ _ HS7 ?_
          clear hK KK HS6
          try simp only [List.setIfInBounds_toArray]
          refine J.J_take (i := 18) (v := ?_) LAST (by rfl) (by decide) (by kernel_rfl) (by kernel_rfl) (by intro _ _ _ h; exact h) HS7 (Or.inl ⟨by rfl, ?_⟩) ?_
          rotate_left
          · intro w hSw; (try dsimp only at hSw); go_simp; try with_reducible rfl
          try simp only [Act.put, List.setIfInBounds_toArray, List.set_cons_zero, List.set_cons_succ]
          refine J.J_last (by rfl) (by kernel_rfl) (by kernel_rfl) ?_
          have cp := HS7.1
          go_simp
          have W7 := hid (show WF (s7 0).rows by rw [T7.out.r0]; exact rowsT_wf (t + 1) 1 (by omega) (by decide) (by decide))
          have ST := hid (net_state N7.out (i := 0) (by decide) W7.out)
          obtain ⟨t1, ht1⟩ : ∃ t1, t1 = t + 1 := ⟨_, rfl⟩
          have hwt : IntKind.i64.wrap ((t : Int) + 1) = (t1 : Int) := by rw [IntWalk.i64_in _ (by omega)]; omega
          have HT1 := hid ht1
          clear ht1
          go_wp2_with fail
          refine ST.out.mono ?_
          rintro e w8 ⟨r8, k8, rfl, ho8, -, hu8⟩
          have A8 := hid (rowAt_own ho8)
          have F8 := hid (show Far B [q] wr w8 from F7.out.trans (Far.of_nil hu8))
          have U8 := hid hu8
          clear ho8 hu8 ST
          have c0 := hid (K.blk_new w8 (.cells #[.int .i64 1, .int .i64 0, .int .i64 1, .int .i64 2, .int .i64 (t1 : Int), .int .i64 1] 65))
          have LIT := hid (show RowAt (w8.alloc (.cells #[.int .i64 1, .int .i64 0, .int .i64 1, .int .i64 2, .int .i64 (t1 : Int), .int .i64 1] 65)) (some ⟨w8.heap.size, 0, none⟩) (rowsT t1 1) from fun j hj => by
            have hj : j < 2 := hj
            have : j = 0 ∨ j = 1 := by omega
            rcases this with rfl | rfl
            · exact ⟨_, _, rfl, K.blk_cell c0.out _, K.blk_cell c0.out _, K.blk_cell c0.out _⟩
            · exact ⟨_, _, rfl, K.blk_cell c0.out _, K.blk_cell c0.out _, K.blk_cell c0.out _⟩)
          go_wp2_with fail
          refine (eq_rows (some ⟨r8, 0, none⟩) (some ⟨w8.heap.size, 0, none⟩) (s7 0).rows (rowsT t1 1) (s7 0).rows.length 2 k8 2 rfl rfl (A8.out.upd ((Upd.refl [] w8).alloc _) (fun _ _ _ h => by cases h)) LIT.out (by have := W7.out.len; omega) (by simp [rowsT])).mono ?_
          rintro e w9 ⟨rfl, hu9⟩
          have E9 := hid (show decide ((s7 0).rows = rowsT t1 1) = true by rw [T7.out.r0, HT1.out]; simp)
          rw [E9.out]
          have F9 := hid (show Far B [q] wr w9 from F8.out.trans (Far.of_nil (((Upd.refl [] w8).alloc _).trans hu9 (fun x hx => by cases hx))))
          have U9 := hid (show Upd [] w7 w9 from U8.out.trans (((Upd.refl [] w8).alloc _).trans hu9 (fun x hx => by cases hx)) (fun x hx => by cases hx))
          clear hu9
          go_wp2_with fail
          go_roundg (c - (t + 1))
          case measure => have := Hd.out; omega
          case rel => exact ⟨t + 1, s7, by rw [HT1.out], by omega, hid (by omega), hid (F9.out.own HO.out (fun x hx => by simp [Value.ownBlock] at hx; simp [hx])), hid (N7.out.new U9.out), T7, hid (HF.out.trans F9.out)⟩
    · have hnt : ¬ (t : Int) < (c : Int) := by omega
      go_wp2_with fail
      go_ret
      exact ⟨rfl, HF.out.upd_le (by rw [HBS.out]; exact U1.out.size) U2.out⟩
end Go.Proofs.Ytgkjkgooonicbaa.Gs
