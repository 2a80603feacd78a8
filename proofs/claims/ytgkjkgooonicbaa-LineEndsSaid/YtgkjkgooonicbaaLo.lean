/- An end of a line: Out. -/
import Derived.Test.YtgkjkgooonicbaaLq
import Derived.Test.YtgkjkgooonicbaaLr
namespace Go.Proofs.Ytgkjkgooonicbaa.Lm
open Go Go.RowKit Go.Proofs.Ytgkjkgooonicbaa Go.Proofs.Ytgkjkgooonicbaa.K Go.Proofs.Ytgkjkgooonicbaa.M Go.Proofs.Ytgkjkgooonicbaa.O

/-- What is always so of an end. -/
structure E.Ok (e : E) : Prop where
  win : e.window ≤ 16
  kept : e.kept.length ≤ e.window
  read : e.read.length ≤ e.window
  limit : e.limit ≤ 16
  base : e.base ≤ 1000000
  want : e.want ≤ 1000000
  small : ∀ i, (e.kept.getD i []).length ≤ 1048576
theorem IsE0.upd {w w' : World} {S : List Nat} {g : Nat} {e : E} {vk vr : Value} {ks rs : List Value} (h : IsE0 w g e vk vr ks rs) (u : Upd S w w') (hd : ∀ s ∈ S, s ∉ foot g vk vr) (n : NoB w S) : IsE0 w' g e vk vr ks rs :=
  ⟨u.blk h.blk (fun hs => hd _ hs (mem_foot.2 (.inl rfl))), own_upd h.kept u (fun _k hk hs => hd _ hs (mem_foot.2 (.inr (.inl hk)))), own_upd h.read u (fun _k hk hs => hd _ hs (mem_foot.2 (.inr (.inr hk)))), h.kb.upd u n, h.rb.upd u n, h.kr⟩
theorem IsE0.noB {w : World} {g : Nat} {e : E} {vk vr : Value} {ks rs : List Value} (h : IsE0 w g e vk vr ks rs) : NoB w (foot g vk vr) := IsE.noB ⟨vk, vr, ks, rs, h, rfl⟩
theorem IsE0.lt {w : World} {g : Nat} {e : E} {vk vr : Value} {ks rs : List Value} (h : IsE0 w g e vk vr ks rs) {s : Nat} (hs : s ∈ foot g vk vr) : s < w.heap.size := IsE.lt (F := foot g vk vr) ⟨vk, vr, ks, rs, h, rfl⟩ hs

/-- The variable p of Out. -/
def PBlk (w : World) (P : Nat) (c0 : Int) (wa : Nat) (c2 : Bool) (wr : Nat) (cv : Value) : Prop := w.heap[P]? = some (.cells #[.int .u32 c0, .int .u32 (wa : Int), .bool c2, .int .i64 (wr : Int), cv] 34 (0, 0))

set_option maxHeartbeats 8000000 in
set_option maxRecDepth 100000 in
theorem out_any {w : World} {F : List Nat} {g : Nat} {e : E} (h : IsE w F g e) (ok : e.Ok) :
    Calls Try.prog 17 #[.pointer (some ⟨g, 0, none⟩)] w fun r w' => ∃ v, r = .returned v ∧ IsPks w' w.heap.size v e.out ∧ IsE w' F g e.outE ∧ Upd F w w' := by
  obtain ⟨i34, hi34, hz34a, hz34b, hz34c⟩ := info_parts info34
  have HI34 := hid hi34
  have HA34 := hid hz34a
  have HB34 := hid hz34b
  have HC34 := hid hz34c
  clear hi34 hz34a hz34b hz34c
  obtain ⟨vk, vr, ks, rs, h0, hF⟩ := h
  subst hF
  obtain ⟨c0, c1, c2, c3, c4, c5, c6, c7, cf⟩ := h0.cells
  obtain ⟨ka, kk, e1, l1, l2, kv⟩ := own_view h0.kept
  subst e1
  obtain ⟨ra, rk, e1, l3, l4, -⟩ := own_view h0.read
  subst e1
  have H0 := hid h0
  have OK := hid ok
  have KV := hid kv
  obtain ⟨wd, hwd⟩ : ∃ x, x = e.window := ⟨_, rfl⟩
  obtain ⟨ba, hba⟩ : ∃ x, x = e.base := ⟨_, rfl⟩
  obtain ⟨n, hn⟩ : ∃ x, x = e.kept.length := ⟨_, rfl⟩
  obtain ⟨tl, htl⟩ : ∃ x, x = e.told := ⟨_, rfl⟩
  obtain ⟨lm, hlm⟩ : ∃ x, x = e.limit := ⟨_, rfl⟩
  obtain ⟨wa, hwa⟩ : ∃ x, x = e.want := ⟨_, rfl⟩
  obtain ⟨r, hr⟩ : ∃ x, x = e.read.length := ⟨_, rfl⟩
  obtain ⟨ow, how⟩ : ∃ x, x = e.owe := ⟨_, rfl⟩
  obtain ⟨tp, htp⟩ : ∃ x, x = min n lm := ⟨_, rfl⟩
  have o1 : wd ≤ 16 := by rw [hwd]; exact ok.win
  have o2 : n ≤ wd := by rw [hn, hwd]; exact ok.kept
  have o3 : r ≤ wd := by rw [hr, hwd]; exact ok.read
  have o4 : lm ≤ 16 := by rw [hlm]; exact ok.limit
  have o5 : ba ≤ 1000000 := by rw [hba]; exact ok.base
  rw [← hwd] at c0
  rw [← hba] at c1
  rw [← hn] at c2 l1
  rw [← hwa] at c5
  rw [← hr] at c6 l3
  rw [← how] at c7
  rw [← hlm] at c4
  have TP : Hid (tp = e.top) := hid (by rw [htp, hn, hlm]; rfl)
  have hmn : ((min n lm : Nat) : Int) = (tp : Int) := by rw [htp]
  have hmin := fun ats ty => min_nat ats ty .i64 .i64 (n : Int) (lm : Int) tp (by omega)
  have t16 : tp ≤ n := by omega
  have gl := World.block_lt_of_cell? w _ c0
  simp only at gl
  obtain ⟨P, hP⟩ : ∃ P, P = w.heap.size := ⟨_, rfl⟩
  have HP := hid hP
  have FP : Hid (∀ s ∈ foot g (.slice ka n kk) (.slice ra r rk), s < P) := hid (fun s hs => by rw [hP]; rw [hn, hr] at hs; exact h0.lt hs)
  have hsub : IntKind.i64.wrap ((wd : Int) - (r : Int)) = ((wd - r : Nat) : Int) := by rw [show (wd : Int) - (r : Int) = ((wd - r : Nat) : Int) by omega]; exact IntWalk.i64_in _ (by omega)
  have HWD := hid hwd
  have HBA := hid hba
  have HN := hid hn
  have HTL := hid htl
  have HLM := hid hlm
  have HWA := hid hwa
  have HR := hid hr
  have HOW := hid how
  have KEEP1 : Hid (∀ wz, Upd [] w wz → wz.cell? ⟨g, 5, none⟩ = some (.int .u32 (wa : Int)) ∧ wz.cell? ⟨g, 0, none⟩ = some (.int .i64 (wd : Int)) ∧ wz.cell? ⟨g, 6, none⟩ = some (.slice ra r rk)) := hid (fun wz u => ⟨u.cell c5 (by simp), u.cell c0 (by simp), u.cell c6 (by simp)⟩)
  clear h0 ok kv hwd hba hn htl hlm hwa hr how hmn htp c0 c1 c3 c4 c5 c6 c7 cf c2 hP
  go_enter Try.func17, Try.ntmps17
  go_upto_region 1 with (fail)
  have HMIN := hid hmin
  clear hmin
  refine J.J_begin (fun wz => wz.cell? ⟨g, 5, none⟩ = some (.int .u32 (wa : Int)) ∧ wz.cell? ⟨g, 0, none⟩ = some (.int .i64 (wd : Int)) ∧ wz.cell? ⟨g, 6, none⟩ = some (.slice ra r rk)) 16 (by kernel_rfl) ⟨by kernel_rfl, by kernel_rfl, by kernel_rfl⟩ (KEEP1.out _ (Upd.refl _ _).drew) (fun LAST HS => ?_)
  refine J.J_take (i := 0) (v := ?_) LAST (by rfl) (by decide) (by kernel_rfl) (by kernel_rfl) (by intro _ _ _ h; exact h) HS (Or.inl ⟨by rfl, ?_⟩) ?_
  rotate_left
  · intro w hSw; (try dsimp only at hSw); go_simp; try with_reducible rfl
  try simp only [Act.put, List.setIfInBounds_toArray, List.set_cons_zero, List.set_cons_succ]
  refine J.J_take (i := 1) (v := ?_) LAST (by rfl) (by decide) (by kernel_rfl) (by kernel_rfl) (by intro _ _ _ h; exact h) HS (Or.inl ⟨by rfl, ?_⟩) ?_
  rotate_left
  · intro w hSw; (try dsimp only at hSw); go_simp; try with_reducible rfl
  try simp only [Act.put, List.setIfInBounds_toArray, List.set_cons_zero, List.set_cons_succ]
  refine J.J_take (i := 2) (v := ?_) LAST (by rfl) (by decide) (by kernel_rfl) (by kernel_rfl) (by intro _ _ _ h; exact h) HS (Or.inl ⟨by rfl, ?_⟩) ?_
  rotate_left
  · intro w hSw; (try dsimp only at hSw); go_simp; try with_reducible rfl
  try simp only [Act.put, List.setIfInBounds_toArray, List.set_cons_zero, List.set_cons_succ]
  refine J.J_take (i := 3) (v := ?_) LAST (by rfl) (by decide) (by kernel_rfl) (by kernel_rfl) (by intro _ _ _ h; exact h) HS (Or.inl ⟨by rfl, ?_⟩) ?_
  rotate_left
  · intro w hSw; (try dsimp only at hSw); go_simp; try with_reducible rfl
  try simp only [Act.put, List.setIfInBounds_toArray, List.set_cons_zero, List.set_cons_succ]
  refine J.J_take (i := 4) (v := ?_) LAST (by rfl) (by decide) (by kernel_rfl) (by kernel_rfl) (by intro _ _ _ h; exact h) HS (Or.inl ⟨by rfl, ?_⟩) ?_
  rotate_left
  · intro w hSw; (try dsimp only at hSw); go_simp; try with_reducible rfl
  try simp only [Act.put, List.setIfInBounds_toArray, List.set_cons_zero, List.set_cons_succ]
  refine J.J_take (i := 5) (v := ?_) LAST (by rfl) (by decide) (by kernel_rfl) (by kernel_rfl) (by intro _ _ _ h; exact h) HS (Or.inl ⟨by rfl, ?_⟩) ?_
  rotate_left
  · intro w hSw; (try dsimp only at hSw); go_simp; try with_reducible rfl
  try simp only [Act.put, List.setIfInBounds_toArray, List.set_cons_zero, List.set_cons_succ]
  refine J.J_take (i := 6) (v := ?_) LAST (by rfl) (by decide) (by kernel_rfl) (by kernel_rfl) (by intro _ _ _ h; exact h) HS (Or.inl ⟨by rfl, ?_⟩) ?_
  rotate_left
  · intro w hSw; (try dsimp only at hSw); go_simp; try with_reducible rfl
  try simp only [Act.put, List.setIfInBounds_toArray, List.set_cons_zero, List.set_cons_succ]
  refine J.J_take (i := 7) (v := ?_) LAST (by rfl) (by decide) (by kernel_rfl) (by kernel_rfl) (by intro _ _ _ h; exact h) HS (Or.inl ⟨by rfl, ?_⟩) ?_
  rotate_left
  · intro w hSw; (try dsimp only at hSw); go_simp; try with_reducible rfl
  try simp only [Act.put, List.setIfInBounds_toArray, List.set_cons_zero, List.set_cons_succ]
  refine J.J_take (i := 8) (v := ?_) LAST (by rfl) (by decide) (by kernel_rfl) (by kernel_rfl) (by intro _ _ _ h; exact h) HS (Or.inl ⟨by rfl, ?_⟩) ?_
  rotate_left
  · intro w hSw; (try dsimp only at hSw); go_simp; try with_reducible rfl
  try simp only [Act.put, List.setIfInBounds_toArray, List.set_cons_zero, List.set_cons_succ]
  refine J.J_take (i := 9) (v := ?_) LAST (by rfl) (by decide) (by kernel_rfl) (by kernel_rfl) (by intro _ _ _ h; exact h) HS (Or.inl ⟨by rfl, ?_⟩) ?_
  rotate_left
  · intro w hSw; (try dsimp only at hSw); go_simp; try with_reducible rfl
  try simp only [Act.put, List.setIfInBounds_toArray, List.set_cons_zero, List.set_cons_succ]
  refine J.J_take (i := 10) (v := ?_) LAST (by rfl) (by decide) (by kernel_rfl) (by kernel_rfl) (by intro _ _ _ h; exact h) HS (Or.inl ⟨by rfl, ?_⟩) ?_
  rotate_left
  · intro w hSw; (try dsimp only at hSw); go_simp; try with_reducible rfl
  try simp only [Act.put, List.setIfInBounds_toArray, List.set_cons_zero, List.set_cons_succ]
  refine J.J_take (i := 11) (v := ?_) LAST (by rfl) (by decide) (by kernel_rfl) (by kernel_rfl) (by intro _ _ _ h; exact h) HS (Or.inl ⟨by rfl, ?_⟩) ?_
  rotate_left
  · intro w hSw; (try dsimp only at hSw); go_simp; try with_reducible rfl
  try simp only [Act.put, List.setIfInBounds_toArray, List.set_cons_zero, List.set_cons_succ]
  refine J.J_take (i := 12) (v := ?_) LAST (by rfl) (by decide) (by kernel_rfl) (by kernel_rfl) (by intro _ _ _ h; exact h) HS (Or.inl ⟨by rfl, ?_⟩) ?_
  rotate_left
  · intro w hSw; (try dsimp only at hSw); go_simp; try with_reducible rfl
  try simp only [Act.put, List.setIfInBounds_toArray, List.set_cons_zero, List.set_cons_succ]
  refine J.J_take (i := 13) (v := ?_) LAST (by rfl) (by decide) (by kernel_rfl) (by kernel_rfl) (by intro _ _ _ h; exact h) HS (Or.inl ⟨by rfl, ?_⟩) ?_
  rotate_left
  · intro w hSw; (try dsimp only at hSw); go_simp; try with_reducible rfl
  try simp only [Act.put, List.setIfInBounds_toArray, List.set_cons_zero, List.set_cons_succ]
  refine J.J_take (i := 14) (v := ?_) LAST (by rfl) (by decide) (by kernel_rfl) (by kernel_rfl) (by intro _ _ _ h; exact h) HS (Or.inl ⟨by rfl, ?_⟩) ?_
  rotate_left
  · intro w hSw; (try dsimp only at hSw); go_simp; try with_reducible rfl
  try simp only [Act.put, List.setIfInBounds_toArray, List.set_cons_zero, List.set_cons_succ]
  refine J.J_one (i := 15) (by rfl) (by decide) (by kernel_rfl) (fun KK hK => ?_)
  go_simp
  refine hK.out _ _ (KEEP1.out _ ((Upd.refl _ _).drew.alloc _)) ?_
  clear hK KK HS
  try simp only [List.setIfInBounds_toArray]
  refine J.J_last (by rfl) (by kernel_rfl) (by kernel_rfl) ?_
  go_simp
  rw [← HP.out]
  obtain ⟨w1, hw1⟩ : ∃ w1, w1 = (w.alloc (.cells #[.int .u32 0, .int .u32 (wa : Int), .bool false, .int .i64 ((wd - r : Nat) : Int), .slice none 0 0] 34)).drew := ⟨_, rfl⟩
  rw [← hw1]
  have UA : Hid (Upd [] w w1) := hid (by rw [hw1]; exact ((Upd.refl [] w).alloc _).drew)
  have I0 : Hid (IsE0 w1 g e (.slice ka n kk) (.slice ra r rk) ks rs) := hid (by rw [HN.out, HR.out]; exact H0.out.upd UA.out (fun s hs => by cases hs) (NoB.nil w))
  have PB : Hid (PBlk w1 P 0 wa false (wd - r) (.slice none 0 0)) := hid (by rw [hw1, HP.out]; exact blk_new w _)
  have SZ : P < w1.heap.size := by rw [hw1, HP.out]; simp
  clear hw1
  go_wp2_with fail
  go_loopg [4] (max tl tp - tl) (fun d v4 wr => ∃ (i : Nat) (x0 : Int) (x2 : Bool) (xv : Value), tl ≤ i ∧ P < wr.heap.size ∧ Hid (i ≤ max tl tp) ∧ Hid (i + d = max tl tp) ∧ Hid (IsE0 wr g { e with told := i } (.slice ka n kk) (.slice ra r rk) ks rs) ∧ Hid (PBlk wr P x0 wa x2 (wd - r) xv) ∧ Hid (IsPks wr (P + 1) v4 (e.says tl (i - tl))) ∧ Hid (Upd (foot g (.slice ka n kk) (.slice ra r rk)) w wr) ∧ Hid (i = tl → x2 = false ∧ xv = .slice none 0 0))
  case atStart => exact ⟨tl, 0, false, .slice none 0 0, Nat.le_refl _, SZ, hid (by omega), hid (by omega), hid (by rw [HTL.out]; exact I0.out), PB, hid (by rw [Nat.sub_self]; exact IsPks.nil _ _), hid (UA.out.mono (fun s hs => by cases hs)), hid (fun _ => ⟨rfl, rfl⟩)⟩
  case round =>
    clear I0 PB SZ UA
    obtain ⟨i, x0, x2, xv, hti, hsz, Hi, Hd, I0, PB, PK, Hu, CV⟩ := hrel
    have c1 : wr.cell? ⟨g, 1, none⟩ = some (.int .u32 (ba : Int)) := by rw [HBA.out]; exact I0.out.cells.2.1
    have c2 : wr.cell? ⟨g, 2, none⟩ = some (.slice ka n kk) := I0.out.cells.2.2.1
    have c3 : wr.cell? ⟨g, 3, none⟩ = some (.int .i64 (i : Int)) := I0.out.cells.2.2.2.1
    have c4 : wr.cell? ⟨g, 4, none⟩ = some (.int .i64 (lm : Int)) := by rw [HLM.out]; exact I0.out.cells.2.2.2.2.1
    have hmin := HMIN.out
    by_cases hit : i < tp
    · have hit' : (i : Int) < (tp : Int) := by omega
      go_wp2_with fail
      go_quiet (fail)
      go_upto_region 4 with (fail)
      clear hmin
      have HIT := hid hit
      obtain ⟨bv, hbv⟩ : ∃ bv, ks[i]? = some bv := by
        have h1 := I0.out.kb.1
        have h2 := HN.out
        have h3 : ({ e with told := i } : E).kept.length = e.kept.length := rfl
        exact ⟨ks[i]'(by omega), List.getElem?_eq_getElem _⟩
      obtain ⟨_, _, ek, -, -, kv⟩ := own_view I0.out.kept
      obtain ⟨gk, ek2, -, ck, -⟩ := kv i bv hbv
      have hbody : Body wr bv (e.kept.getD i []) := by
        have := I0.out.kb.2 i (by have h2 := HN.out; show i < e.kept.length; omega)
        rw [List.getD_eq_getElem?_getD, hbv] at this
        exact this
      simp only [Value.slice.injEq] at ek
      rw [ek2] at ek
      obtain ⟨rfl, -, -⟩ := ek
      obtain ⟨b, hb⟩ : ∃ b, b = e.kept.getD i [] := ⟨_, rfl⟩
      rw [← hb] at hbody
      have hbl : b.length ≤ 1048576 := by rw [hb]; exact OK.out.small i
      obtain ⟨bl, hbl2⟩ : ∃ bl, bl = b.length := ⟨_, rfl⟩
      have HB := hid hb
      have HBL := hid hbl
      have HBL2 := hid hbl2
      have HBO := hid hbody
      obtain ⟨va, vc, ev, -⟩ := hbody
      rw [← hbl2] at ev
      subst ev
      have HBV := hid hbv
      clear hb hbl hbl2 hbv kv ek2
      have gkP : Hid (gk ≠ P ∧ g ≠ P) := hid ⟨fun e1 => by
        have := FP.out gk (mem_foot.2 (.inr (.inl rfl))); omega, fun e1 => by have := FP.out g (mem_foot.2 (.inl rfl)); omega⟩
      have KEEP : Hid (∀ wz, Upd [P] wr wz → wz.cell? ⟨g, 1, none⟩ = some (.int .u32 (ba : Int)) ∧ wz.cell? ⟨g, 3, none⟩ = some (.int .i64 (i : Int)) ∧ wz.cell? ⟨g, 2, none⟩ = some (.slice (some ⟨gk, 0, none⟩) n kk) ∧ wz.cell? ⟨gk, i, none⟩ = some (.slice va bl vc)) := hid (fun wz u => ⟨u.cell c1 (by simpa using gkP.out.2), u.cell c3 (by simpa using gkP.out.2), u.cell c2 (by simpa using gkP.out.2), u.cell ck (by simpa using gkP.out.1)⟩)
      have U0 : Hid (∀ k, Upd [P] wr (wr.drewN k)) := hid (fun k => (Upd.refl _ wr).drewN k)
      have V0 : Hid (∀ k, Upd [] wr (wr.drewN k)) := hid (fun k => (Upd.refl _ wr).drewN k)
      have w32 : IntKind.u32.wrap (i : Int) = (i : Int) := IntWalk.u32_in _ (by omega)
      obtain ⟨sq, hsq⟩ : ∃ sq, sq = ba + i := ⟨_, rfl⟩
      have w33 : IntKind.u32.wrap ((ba : Int) + (i : Int)) = (sq : Int) := by rw [show (ba : Int) + (i : Int) = (sq : Int) by omega]; exact IntWalk.u32_in _ (by omega)
      have HSQ := hid hsq
      clear hsq
      have i0 : (0 : Int) ≤ (i : Int) := by omega
      have i1 : (i : Int) < (n : Int) := by omega
      clear c1 c2 c3 c4 ck hit hit'
      have NBP : NoB wr [P] := fun s hs ⟨cur, f, hx⟩ => by
        simp at hs
        subst hs
        have := PB.out
        unfold PBlk at this
        rw [this] at hx
        simp at hx
      have HNB := hid NBP
      clear NBP
      go_cut [] from 35 to 58 (fun wx => ∃ v', Body wx v' b ∧ PBlk wx P (sq : Int) wa true (wd - r) v' ∧ Upd [P] wr wx)
      case first =>
        refine J.J_begin (fun wz => wz.cell? ⟨g, 1, none⟩ = some (.int .u32 (ba : Int)) ∧ wz.cell? ⟨g, 3, none⟩ = some (.int .i64 (i : Int)) ∧ wz.cell? ⟨g, 2, none⟩ = some (.slice (some ⟨gk, 0, none⟩) n kk) ∧ wz.cell? ⟨gk, i, none⟩ = some (.slice va bl vc)) 26 (by kernel_rfl) ⟨by kernel_rfl, by kernel_rfl, by kernel_rfl⟩ (KEEP.out _ (U0.out _).drew) (fun LAST HS => ?_)
        refine J.J_take (i := 0) (v := ?_) LAST (by rfl) (by decide) (by kernel_rfl) (by kernel_rfl) (by intro _ _ _ h; exact h) HS (Or.inl ⟨by rfl, ?_⟩) ?_
        rotate_left
        · intro w hSw; (try dsimp only at hSw); go_simp; try with_reducible rfl
        try simp only [Act.put, List.setIfInBounds_toArray, List.set_cons_zero, List.set_cons_succ]
        refine J.J_take (i := 1) (v := ?_) LAST (by rfl) (by decide) (by kernel_rfl) (by kernel_rfl) (by intro _ _ _ h; exact h) HS (Or.inl ⟨by rfl, ?_⟩) ?_
        rotate_left
        · intro w hSw; (try dsimp only at hSw); go_simp; try with_reducible rfl
        try simp only [Act.put, List.setIfInBounds_toArray, List.set_cons_zero, List.set_cons_succ]
        refine J.J_take (i := 2) (v := ?_) LAST (by rfl) (by decide) (by kernel_rfl) (by kernel_rfl) (by intro _ _ _ h; exact h) HS (Or.inl ⟨by rfl, ?_⟩) ?_
        rotate_left
        · intro w hSw; (try dsimp only at hSw); go_simp; try with_reducible rfl
        try simp only [Act.put, List.setIfInBounds_toArray, List.set_cons_zero, List.set_cons_succ]
        refine J.J_take (i := 3) (v := ?_) LAST (by rfl) (by decide) (by kernel_rfl) (by kernel_rfl) (by intro _ _ _ h; exact h) HS (Or.inl ⟨by rfl, ?_⟩) ?_
        rotate_left
        · intro w hSw; (try dsimp only at hSw); go_simp; try with_reducible rfl
        try simp only [Act.put, List.setIfInBounds_toArray, List.set_cons_zero, List.set_cons_succ]
        refine J.J_take (i := 4) (v := ?_) LAST (by rfl) (by decide) (by kernel_rfl) (by kernel_rfl) (by intro _ _ _ h; exact h) HS (Or.inl ⟨by rfl, ?_⟩) ?_
        rotate_left
        · intro w hSw; (try dsimp only at hSw); go_simp; try with_reducible rfl
        try simp only [Act.put, List.setIfInBounds_toArray, List.set_cons_zero, List.set_cons_succ]
        refine J.J_take (i := 5) (v := ?_) LAST (by rfl) (by decide) (by kernel_rfl) (by kernel_rfl) (by intro _ _ _ h; exact h) HS (Or.inl ⟨by rfl, ?_⟩) ?_
        rotate_left
        · intro w hSw; (try dsimp only at hSw); go_simp; try with_reducible rfl
        try simp only [Act.put, List.setIfInBounds_toArray, List.set_cons_zero, List.set_cons_succ]
        refine J.J_take (i := 6) (v := ?_) LAST (by rfl) (by decide) (by kernel_rfl) (by kernel_rfl) (by intro _ _ _ h; exact h) HS (Or.inl ⟨by rfl, ?_⟩) ?_
        rotate_left
        · intro w hSw; (try dsimp only at hSw); go_simp; try with_reducible rfl
        try simp only [Act.put, List.setIfInBounds_toArray, List.set_cons_zero, List.set_cons_succ]
        refine J.J_take (i := 7) (v := ?_) LAST (by rfl) (by decide) (by kernel_rfl) (by kernel_rfl) (by intro _ _ _ h; exact h) HS (Or.inl ⟨by rfl, ?_⟩) ?_
        rotate_left
        · intro w hSw; (try dsimp only at hSw); go_simp; try with_reducible rfl
        try simp only [Act.put, List.setIfInBounds_toArray, List.set_cons_zero, List.set_cons_succ]
        refine J.J_take (i := 8) (v := ?_) LAST (by rfl) (by decide) (by kernel_rfl) (by kernel_rfl) (by intro _ _ _ h; exact h) HS (Or.inl ⟨by rfl, ?_⟩) ?_
        rotate_left
        · intro w hSw; (try dsimp only at hSw); go_simp; try with_reducible rfl
        try simp only [Act.put, List.setIfInBounds_toArray, List.set_cons_zero, List.set_cons_succ]
        refine J.J_take (i := 9) (v := ?_) LAST (by rfl) (by decide) (by kernel_rfl) (by kernel_rfl) (by intro _ _ _ h; exact h) HS (Or.inl ⟨by rfl, ?_⟩) ?_
        rotate_left
        · intro w hSw; (try dsimp only at hSw); go_simp; try with_reducible rfl
        try simp only [Act.put, List.setIfInBounds_toArray, List.set_cons_zero, List.set_cons_succ]
        refine J.J_take (i := 10) (v := ?_) LAST (by rfl) (by decide) (by kernel_rfl) (by kernel_rfl) (by intro _ _ _ h; exact h) HS (Or.inl ⟨by rfl, ?_⟩) ?_
        rotate_left
        · intro w hSw; (try dsimp only at hSw); go_simp; try with_reducible rfl
        try simp only [Act.put, List.setIfInBounds_toArray, List.set_cons_zero, List.set_cons_succ]
        refine J.J_take (i := 11) (v := ?_) LAST (by rfl) (by decide) (by kernel_rfl) (by kernel_rfl) (by intro _ _ _ h; exact h) HS (Or.inl ⟨by rfl, ?_⟩) ?_
        rotate_left
        · intro w hSw; (try dsimp only at hSw); go_simp; try with_reducible rfl
        try simp only [Act.put, List.setIfInBounds_toArray, List.set_cons_zero, List.set_cons_succ]
        refine J.J_take (i := 12) (v := ?_) LAST (by rfl) (by decide) (by kernel_rfl) (by kernel_rfl) (by intro _ _ _ h; exact h) HS (Or.inl ⟨by rfl, ?_⟩) ?_
        rotate_left
        · intro w hSw; (try dsimp only at hSw); go_simp; try with_reducible rfl
        try simp only [Act.put, List.setIfInBounds_toArray, List.set_cons_zero, List.set_cons_succ]
        refine J.J_take (i := 13) (v := ?_) LAST (by rfl) (by decide) (by kernel_rfl) (by kernel_rfl) (by intro _ _ _ h; exact h) HS (Or.inl ⟨by rfl, ?_⟩) ?_
        rotate_left
        · intro w hSw; (try dsimp only at hSw); go_simp; try with_reducible rfl
        try simp only [Act.put, List.setIfInBounds_toArray, List.set_cons_zero, List.set_cons_succ]
        refine J.J_take (i := 14) (v := ?_) LAST (by rfl) (by decide) (by kernel_rfl) (by kernel_rfl) (by intro _ _ _ h; exact h) HS (Or.inl ⟨by rfl, ?_⟩) ?_
        rotate_left
        · intro w hSw; (try dsimp only at hSw); go_simp; try with_reducible rfl
        try simp only [Act.put, List.setIfInBounds_toArray, List.set_cons_zero, List.set_cons_succ]
        refine J.J_take (i := 15) (v := ?_) LAST (by rfl) (by decide) (by kernel_rfl) (by kernel_rfl) (by intro _ _ _ h; exact h) HS (Or.inl ⟨by rfl, ?_⟩) ?_
        rotate_left
        · intro w hSw; (try dsimp only at hSw); go_simp; try with_reducible rfl
        try simp only [Act.put, List.setIfInBounds_toArray, List.set_cons_zero, List.set_cons_succ]
        refine J.J_take (i := 16) (v := ?_) LAST (by rfl) (by decide) (by kernel_rfl) (by kernel_rfl) (by intro _ _ _ h; exact h) HS (Or.inl ⟨by rfl, ?_⟩) ?_
        rotate_left
        · intro w hSw; (try dsimp only at hSw); go_simp; try with_reducible rfl
        try simp only [Act.put, List.setIfInBounds_toArray, List.set_cons_zero, List.set_cons_succ]
        refine J.J_take (i := 17) (v := ?_) LAST (by rfl) (by decide) (by kernel_rfl) (by kernel_rfl) (by intro _ _ _ h; exact h) HS (Or.inl ⟨by rfl, ?_⟩) ?_
        rotate_left
        · intro w hSw; (try dsimp only at hSw); go_simp; try with_reducible rfl
        try simp only [Act.put, List.setIfInBounds_toArray, List.set_cons_zero, List.set_cons_succ]
        refine J.J_take (i := 18) (v := ?_) LAST (by rfl) (by decide) (by kernel_rfl) (by kernel_rfl) (by intro _ _ _ h; exact h) HS (Or.inl ⟨by rfl, ?_⟩) ?_
        rotate_left
        · intro w hSw; (try dsimp only at hSw); go_simp; try with_reducible rfl
        try simp only [Act.put, List.setIfInBounds_toArray, List.set_cons_zero, List.set_cons_succ]
        refine J.J_take (i := 19) (v := ?_) LAST (by rfl) (by decide) (by kernel_rfl) (by kernel_rfl) (by intro _ _ _ h; exact h) HS (Or.inl ⟨by rfl, ?_⟩) ?_
        rotate_left
        · intro w hSw; (try dsimp only at hSw); go_simp; try with_reducible rfl
        try simp only [Act.put, List.setIfInBounds_toArray, List.set_cons_zero, List.set_cons_succ]
        refine J.J_take (i := 21) (v := ?_) LAST (by rfl) (by decide) (by kernel_rfl) (by kernel_rfl) (by intro _ _ _ h; exact h) HS (Or.inl ⟨by rfl, ?_⟩) ?_
        rotate_left
        · intro w hSw; (try dsimp only at hSw); go_simp; try with_reducible rfl
        try simp only [Act.put, List.setIfInBounds_toArray, List.set_cons_zero, List.set_cons_succ]
        refine J.J_one (i := 20) (by rfl) (by decide) (by kernel_rfl) (fun KK hK => ?_)
        go_simp
        refine (clone_body (HBO.out.upd (V0.out _) (NoB.nil _)) (by have := HBL.out; omega)).mono ?_
        rintro q w2 ⟨v', rfl, hb1, hu1⟩
        obtain ⟨ya, yc, ev, -⟩ := id hb1
        rw [← HBL2.out] at ev
        subst ev
        have HB1 := hid hb1
        have V1 := hid ((V0.out _).trans hu1 (fun t ht => by cases ht))
        clear hb1 hu1
        have HS1 := KEEP.out _ (V1.out.mono (fun s hs => by cases hs))
        go_wp2_with fail
        refine hK.out _ _ HS1 ?_
        clear hK KK HS
        try simp only [List.setIfInBounds_toArray]
        have bP := hid (show w2.heap[P]? = some _ from V1.out.blk PB.out (by simp))
        have z0 := (blk_cell bP.out 0).trans rfl
        have z2 := (blk_cell bP.out 2).trans rfl
        have z4 := (blk_cell bP.out 4).trans rfl
        have f0 := blk_frozen bP.out
        have u3 := hid ((Upd.refl [P] w2).setCell (p := ⟨P, 0, none⟩) (.inl (by simp)) (.int .u32 (sq : Int)))
        have UP : Hid (∀ wz, Upd [P] w2 wz → Upd [P] wr wz) := hid (fun wz u => (V1.out.mono (fun s hs => by cases hs)).trans u (fun t ht => .inl ht))
        have HS3 := KEEP.out _ (UP.out _ u3.out)
        have W33 := hid w33
        refine J.J_one (i := 22) (by rfl) (by decide) (by kernel_rfl) (fun KK hK => ?_)
        go_simp
        refine hK.out _ _ HS3 ?_
        clear hK KK HS1 z0
        try simp only [List.setIfInBounds_toArray]
        refine J.J_take (i := 23) (v := ?_) LAST (by rfl) (by decide) (by kernel_rfl) (by kernel_rfl) (by intro _ _ _ h; exact h) HS3 (Or.inl ⟨by rfl, ?_⟩) ?_
        rotate_left
        · intro w hSw; (try dsimp only at hSw); go_simp; try with_reducible rfl
        try simp only [Act.put, List.setIfInBounds_toArray, List.set_cons_zero, List.set_cons_succ]
        have b3 := hid (blk_set bP.out 0 (.int .u32 (sq : Int)))
        have u4 := hid (u3.out.setCell (p := ⟨P, 2, none⟩) (.inl (by simp)) (.bool true))
        have HS4 := KEEP.out _ (UP.out _ u4.out)
        refine J.J_one (i := 24) (by rfl) (by decide) (by kernel_rfl) (fun KK hK => ?_)
        go_simp
        refine hK.out _ _ HS4 ?_
        clear hK KK HS3
        try simp only [List.setIfInBounds_toArray]
        refine J.J_take (i := 25) (v := ?_) LAST (by rfl) (by decide) (by kernel_rfl) (by kernel_rfl) (by intro _ _ _ h; exact h) HS4 (Or.inl ⟨by rfl, ?_⟩) ?_
        rotate_left
        · intro w hSw; (try dsimp only at hSw); go_simp; try with_reducible rfl
        try simp only [Act.put, List.setIfInBounds_toArray, List.set_cons_zero, List.set_cons_succ]
        have b4 := hid (blk_set b3.out 2 (.bool true))
        refine J.J_last (by rfl) (by kernel_rfl) (by kernel_rfl) ?_
        go_simp
        go_wp2_with fail
        go_meet
        have u5 := u4.out.setCell (p := ⟨P, 4, none⟩) (.inl (by simp)) (.slice ya bl yc)
        have hq : Body w2 (.slice ya bl yc) b := HB1.out
        have nbp : NoB w2 [P] := fun s hs ⟨cur, f, hx⟩ => by simp at hs; subst hs; rw [bP.out] at hx; simp at hx
        exact ⟨_, hq.upd u5 nbp, blk_set b4.out 4 _, UP.out _ u5⟩
      obtain ⟨v', hbw, hpb, huw⟩ := hcut
      have HBW := hid hbw
      obtain ⟨ya, yc, ev, -⟩ := hbw
      rw [← HBL2.out] at ev
      subst ev
      have HPB := hid hpb
      have HUW := hid huw
      have hsz2 : P < wc.heap.size := Nat.lt_of_lt_of_le hsz huw.size
      have d0 : wc.cell? ⟨P, 0, none⟩ = some (.int .u32 (sq : Int)) := (blk_cell hpb 0).trans rfl
      have d1 : wc.cell? ⟨P, 1, none⟩ = some (.int .u32 (wa : Int)) := (blk_cell hpb 1).trans rfl
      have d2 : wc.cell? ⟨P, 2, none⟩ = some (.bool true) := (blk_cell hpb 2).trans rfl
      have d3 : wc.cell? ⟨P, 3, none⟩ = some (.int .i64 ((wd - r : Nat) : Int)) := (blk_cell hpb 3).trans rfl
      have d4 : wc.cell? ⟨P, 4, none⟩ = some (.slice ya bl yc) := (blk_cell hpb 4).trans rfl
      obtain ⟨us, pk1, pk2⟩ := PK.out
      have vfar : ∀ k, u4.ownBlock = some k → P + 1 ≤ k := own_ge pk1
      have vP : ∀ k, u4.ownBlock = some k → k ∉ [P] := fun k hk hs => by have := vfar k hk; simp at hs; omega
      have PK1 : Hid (wc.ownsRow (P + 1) 34 5 u4 (e.says tl (i - tl)).length (pkCells (e.says tl (i - tl)) us)) := hid (own_upd pk1 huw vP)
      have PK2 : Hid (Bodies wc us ((e.says tl (i - tl)).map (·.body))) := hid (pk2.upd huw HNB.out)
      have VF := hid vfar
      obtain ⟨kn, hkn⟩ : ∃ kn, kn = i - tl := ⟨_, rfl⟩
      have hkl : (e.says tl (i - tl)).length = kn := by rw [E.says_len, hkn]
      have PK1' : Hid (wc.ownsRow (P + 1) 34 5 u4 kn (pkCells (e.says tl (i - tl)) us)) := hid (by have := PK1.out; rw [hkl] at this; exact this)
      have HKN := hid hkn
      have hi16 : i ≤ 16 := by have := HIT.out; omega
      have hk16 : kn ≤ 16 := by omega
      have PKW := hid pk1
      have usl : us.length = (e.says tl (i - tl)).length := by have := pk2.1; simpa using this
      have USL := hid usl
      clear hpb huw pk1 pk2 vfar vP PK1 hkn hkl PK usl
      go_upto_region 6 with (first | (at_builtin; refine wpList_app (W := wc) rfl (.tmp 59) (.tmp 61) 30 rfl (P + 1) 34 i34 _ 5 48 Try.underlying30 HI34.out HA34.out HB34.out HC34.out rfl (by decide) u4 kn _ rfl PK1'.out [.int .u32 (sq : Int), .int .u32 (wa : Int), .bool true, .int .i64 ((wd - r : Nat) : Int), .slice ya bl yc] 34 (by first | rfl | (rw [World.size_alloc]; rfl)) rfl (by intro u hu; simp at hu; rcases hu with rfl | rfl | rfl | rfl | rfl <;> rfl) (by omega) (by omega) (by omega) ?_; intro v5 w5 ho hu5 hl5; have HO5 := hid ho; have HU5 := hid hu5; clear ho hu5 hl5))
      have nown : NoB wr (P :: u4.ownBlock.toList) := fun s hs hx => by
        rcases List.mem_cons.1 hs with q | q
        · exact HNB.out s (by simp [q]) hx
        · obtain ⟨cur, hb⟩ := own_block PKW.out s (by simpa using q)
          obtain ⟨cur', f', hx⟩ := hx
          rw [hb] at hx
          simp at hx
      have ut : Upd (P :: u4.ownBlock.toList) wr w5 := (HUW.out.mono (fun s hs => .inl (by simp at hs; simp [hs]))).trans HU5.out (fun t ht => .inl (by simp [ht]))
      have hfoot : ∀ s ∈ P :: u4.ownBlock.toList, s ∉ foot g (.slice (some ⟨gk, 0, none⟩) n kk) (.slice ra r rk) := fun s hs hf => by
        have h1 := FP.out s hf
        rcases List.mem_cons.1 hs with q | q
        · omega
        · have := VF.out s (by simpa using q); omega
      have I5 := hid (I0.out.upd ut hfoot nown)
      have UT := hid ut
      have g3 : w5.cell? ⟨g, 3, none⟩ = some (.int .i64 (i : Int)) := I5.out.cells.2.2.2.1
      have gf := I5.out.cells.2.2.2.2.2.2.2.2
      have GP := hid (own_ge HO5.out)
      clear nown ut hfoot d0 d1 d2 d3 d4 i0 i1 w32 w33
      go_wp2_with fail
      go_roundg (max tl tp - tl - (kn + 1))
      case measure => have := Hd.out; have := HKN.out; have := HIT.out; omega
      case rel =>
        have hit := HIT.out
        have hkn := HKN.out
        have us1 : Upd [g] w5 (w5.setCell ⟨g, 3, none⟩ (.int .i64 ((i : Int) + 1))) := (Upd.refl _ w5).setCell (.inl (by simp)) _
        have ng : NoB w5 [g] := fun s hs ⟨cur, f, hx⟩ => by simp at hs; subst hs; rw [I5.out.blk] at hx; simp at hx
        have gP := gkP.out.2
        have gl2 : g < P := FP.out g (mem_foot.2 (.inl rfl))
        refine ⟨i + 1, (sq : Int), true, .slice ya bl yc, by omega, ?_, hid (by omega), hid (by omega), hid ?_, hid ?_, hid ⟨us ++ [.slice ya bl yc], ?_, ?_⟩, hid ?_, hid (fun q => by omega)⟩
        · exact Nat.lt_of_lt_of_le hsz2 (Nat.le_trans HU5.out.size us1.size)
        · exact I5.out.re us1 rfl rfl (blk_set I5.out.blk 3 _)
        · exact us1.blk (HU5.out.blk HPB.out (fun hs => by have := VF.out P (by simpa using hs); omega)) (by simp; omega)
        · have h1 := own_upd HO5.out us1 (fun k hk hs => by simp at hs; subst hs; have := GP.out k hk; omega)
          rw [show i + 1 - tl = kn + 1 by omega]
          rw [show e.says tl (kn + 1) = e.says tl kn ++ [e.say (tl + kn)] from rfl]
          rw [pkCells_snoc _ _ _ _ (by rw [USL.out, hkn]), List.length_append, E.says_len]
          rw [← hkn] at h1
          have e2 : pkVals (e.say (tl + kn)) (.slice ya bl yc) = [.int .u32 (sq : Int), .int .u32 (wa : Int), .bool true, .int .i64 ((wd - r : Nat) : Int), .slice ya bl yc] := by
            simp only [pkVals, E.say, HSQ.out, HWA.out, HWD.out, HR.out, HBA.out]
            rw [show tl + kn = i by omega]
          rw [e2]
          exact h1
        · rw [show i + 1 - tl = kn + 1 by omega]
          show Bodies _ _ ((e.says tl kn ++ [e.say (tl + kn)]).map (·.body))
          rw [List.map_append]
          have nu : NoB wc u4.ownBlock.toList := fun s hs hx => by
            obtain ⟨cur, hb⟩ := own_block PK1'.out s (by simpa using hs)
            obtain ⟨cur', f', hx⟩ := hx
            rw [hb] at hx
            simp at hx
          have h2 := PK2.out
          rw [← hkn] at h2
          have h3 : Body wc (.slice ya bl yc) (e.say (tl + kn)).body := by
            show Body wc _ (e.kept.getD (tl + kn) [])
            rw [show tl + kn = i by omega, ← HB.out]; exact HBW.out
          exact ((h2.snoc h3).upd HU5.out nu).upd us1 ng
        · have h1 : Upd (foot g (.slice (some ⟨gk, 0, none⟩) n kk) (.slice ra r rk)) w w5 := Hu.out.trans UT.out (fun t ht => by
            rcases List.mem_cons.1 ht with q | q
            · exact .inr (by rw [q, HP.out]; exact Nat.le_refl _)
            · have := VF.out t (by simpa using q); exact .inr (by rw [← HP.out]; omega))
          exact h1.trans us1 (fun t ht => .inl (by simp at ht; subst ht; exact mem_foot.2 (.inl rfl)))
    · have hit' : ¬ (i : Int) < (tp : Int) := by omega
      have him : i = max tl tp := by have := Hi.out; omega
      have hend : ({ e with told := i, owe := false } : E) = e.outE := by unfold E.outE; rw [him, HTL.out, TP.out]
      have HEND := hid hend
      have c7 : wr.cell? ⟨g, 7, none⟩ = some (.bool ow) := by rw [HOW.out]; exact I0.out.cells.2.2.2.2.2.2.2.1
      have cf := I0.out.cells.2.2.2.2.2.2.2.2
      obtain ⟨us, pk1, pk2⟩ := PK.out
      obtain ⟨kn, hkn⟩ : ∃ kn, kn = i - tl := ⟨_, rfl⟩
      have hkl : (e.says tl (i - tl)).length = kn := by rw [E.says_len, hkn]
      have GP := hid (own_ge pk1)
      obtain ⟨oa, oc, ev, hoc, -⟩ := own_view pk1
      rw [hkl] at ev hoc
      subst ev
      have PK1 := hid pk1
      have PK2 := hid pk2
      have HKN := hid hkn
      have HIM := hid him
      have gl2 : Hid (g < P) := hid (FP.out g (mem_foot.2 (.inl rfl)))
      clear pk1 pk2 hkn hkl hend him
      by_cases hk0 : 0 < kn
      · have hk0' : ((kn : Int) == 0) = false := by rw [beq_eq_false_iff_ne]; omega
        go_wp2_with fail
        go_quiet (fail)
        clear hmin
        go_wp2_with fail
        go_ret
        have u1 : Upd [] wr (wr.drewN nq) := (Upd.refl [] wr).drewN _
        have us1 : Upd [g] (wr.drewN nq) ((wr.drewN nq).setCell ⟨g, 7, none⟩ (.bool false)) := (Upd.refl _ _).setCell (.inl (by simp)) _
        have I1 := I0.out.upd u1 (fun s hs => by cases hs) (NoB.nil _)
        have ng : NoB (wr.drewN nq) [g] := fun s hs ⟨cur, f, hx⟩ => by simp at hs; subst hs; rw [I1.blk] at hx; simp at hx
        have hout : e.out = e.says tl (i - tl) := by
          have h1 := HKN.out
          have h2 := HIM.out
          unfold E.out
          rw [← HTL.out, ← TP.out, if_pos (by omega), show tp - tl = i - tl by omega]
        refine ⟨_, rfl, ?_, ?_, ?_⟩
        · rw [hout]
          exact ⟨us, own_mono (own_upd (own_upd PK1.out u1 (fun _ _ hs => by cases hs)) us1 (fun k hk hs => by simp at hs; have := GP.out k hk; have := gl2.out; omega)) (by have := HP.out; omega), (PK2.out.upd u1 (NoB.nil _)).upd us1 ng⟩
        · rw [← HEND.out]
          refine ⟨_, _, ks, rs, I1.re us1 rfl rfl (blk_set I1.blk 7 _), by rw [HN.out, HR.out]⟩
        · have h1 := (Hu.out.trans u1 (fun t ht => by cases ht)).trans us1 (fun t ht => .inl (by simp at ht; subst ht; exact mem_foot.2 (.inl rfl)))
          rw [HN.out, HR.out] at h1
          exact h1
      · obtain rfl : kn = 0 := by omega
        cases ow with
        | false =>
          go_wp2_with fail
          go_quiet (fail)
          clear hmin
          go_wp2_with fail
          go_ret
          have u1 : Upd [] wr (wr.drewN nq) := (Upd.refl [] wr).drewN _
          have us1 : Upd [g] (wr.drewN nq) ((wr.drewN nq).setCell ⟨g, 7, none⟩ (.bool false)) := (Upd.refl _ _).setCell (.inl (by simp)) _
          have I1 := I0.out.upd u1 (fun s hs => by cases hs) (NoB.nil _)
          have ng : NoB (wr.drewN nq) [g] := fun s hs ⟨cur, f, hx⟩ => by simp at hs; subst hs; rw [I1.blk] at hx; simp at hx
          have hout : e.out = e.says tl (i - tl) := by
            have h1 := HKN.out
            have h2 := HIM.out
            unfold E.out
            rw [← HTL.out, ← TP.out, if_neg (by omega), ← HOW.out, ← h1]
            rfl
          refine ⟨_, rfl, ?_, ?_, ?_⟩
          · rw [hout]
            exact ⟨us, own_mono (own_upd (own_upd PK1.out u1 (fun _ _ hs => by cases hs)) us1 (fun k hk hs => by simp at hs; have := GP.out k hk; have := gl2.out; omega)) (by have := HP.out; omega), (PK2.out.upd u1 (NoB.nil _)).upd us1 ng⟩
          · rw [← HEND.out]
            refine ⟨_, _, ks, rs, I1.re us1 rfl rfl (blk_set I1.blk 7 _), by rw [HN.out, HR.out]⟩
          · have h1 := (Hu.out.trans u1 (fun t ht => by cases ht)).trans us1 (fun t ht => .inl (by simp at ht; subst ht; exact mem_foot.2 (.inl rfl)))
            rw [HN.out, HR.out] at h1
            exact h1
        | true =>
          have hki : i - tl = 0 := HKN.out.symm
          obtain ⟨rfl, rfl⟩ := CV.out (by omega)
          have NBP : NoB wr [P] := fun s hs ⟨cur, f, hx⟩ => by
            simp at hs
            subst hs
            have := PB.out
            unfold PBlk at this
            rw [this] at hx
            simp at hx
          have HNB := hid NBP
          have hus : us = [] := by
            have h1 := PK2.out.1
            rw [hki] at h1
            exact List.eq_nil_of_length_eq_zero h1
          subst hus
          have PK1' : Hid (wr.ownsRow (P + 1) 34 5 (.slice oa 0 oc) 0 []) := hid (by have := PK1.out; rw [hki] at this; exact this)
          have HKI := hid hki
          have KEEP : Hid (∀ wz, Upd [P] wr wz → wz.cell? ⟨g, 1, none⟩ = some (.int .u32 (ba : Int)) ∧ wz.cell? ⟨g, 2, none⟩ = some (.slice ka n kk)) := hid (fun wz u => ⟨u.cell c1 (by have := gl2.out; simp; omega), u.cell c2 (by have := gl2.out; simp; omega)⟩)
          have U0 : Hid (∀ k, Upd [P] wr (wr.drewN k)) := hid (fun k => (Upd.refl _ wr).drewN k)
          have w32 : IntKind.u32.wrap (n : Int) = (n : Int) := IntWalk.u32_in _ (by omega)
          obtain ⟨sq, hsq⟩ : ∃ sq, sq = ba + n := ⟨_, rfl⟩
          have w33 : IntKind.u32.wrap ((ba : Int) + (n : Int)) = (sq : Int) := by rw [show (ba : Int) + (n : Int) = (sq : Int) by omega]; exact IntWalk.u32_in _ (by omega)
          have HSQ := hid hsq
          clear hki NBP hsq CV PK1
          go_wp2_with fail
          go_quiet (fail)
          clear hmin
          go_upto_region 8 with (fail)
          clear c1 c2 c3 c4 c7 cf
          have z0 : wr.cell? ⟨P, 0, none⟩ = some (.int .u32 x0) := (blk_cell PB.out 0).trans rfl
          have z1 := blk_frozen PB.out
          go_cut [] from 79 to 90 (fun wx => PBlk wx P (sq : Int) wa false (wd - r) (.slice none 0 0) ∧ Upd [P] wr wx)
          case first =>
            refine J.J_begin (fun wz => wz.cell? ⟨g, 1, none⟩ = some (.int .u32 (ba : Int)) ∧ wz.cell? ⟨g, 2, none⟩ = some (.slice ka n kk)) 12 (by kernel_rfl) ⟨by kernel_rfl, by kernel_rfl, by kernel_rfl⟩ (KEEP.out _ (U0.out _).drew) (fun LAST HS => ?_)
            refine J.J_take (i := 0) (v := ?_) LAST (by rfl) (by decide) (by kernel_rfl) (by kernel_rfl) (by intro _ _ _ h; exact h) HS (Or.inl ⟨by rfl, ?_⟩) ?_
            rotate_left
            · intro w hSw; (try dsimp only at hSw); go_simp; try with_reducible rfl
            try simp only [Act.put, List.setIfInBounds_toArray, List.set_cons_zero, List.set_cons_succ]
            refine J.J_take (i := 1) (v := ?_) LAST (by rfl) (by decide) (by kernel_rfl) (by kernel_rfl) (by intro _ _ _ h; exact h) HS (Or.inl ⟨by rfl, ?_⟩) ?_
            rotate_left
            · intro w hSw; (try dsimp only at hSw); go_simp; try with_reducible rfl
            try simp only [Act.put, List.setIfInBounds_toArray, List.set_cons_zero, List.set_cons_succ]
            refine J.J_take (i := 2) (v := ?_) LAST (by rfl) (by decide) (by kernel_rfl) (by kernel_rfl) (by intro _ _ _ h; exact h) HS (Or.inl ⟨by rfl, ?_⟩) ?_
            rotate_left
            · intro w hSw; (try dsimp only at hSw); go_simp; try with_reducible rfl
            try simp only [Act.put, List.setIfInBounds_toArray, List.set_cons_zero, List.set_cons_succ]
            refine J.J_take (i := 3) (v := ?_) LAST (by rfl) (by decide) (by kernel_rfl) (by kernel_rfl) (by intro _ _ _ h; exact h) HS (Or.inl ⟨by rfl, ?_⟩) ?_
            rotate_left
            · intro w hSw; (try dsimp only at hSw); go_simp; try with_reducible rfl
            try simp only [Act.put, List.setIfInBounds_toArray, List.set_cons_zero, List.set_cons_succ]
            refine J.J_take (i := 4) (v := ?_) LAST (by rfl) (by decide) (by kernel_rfl) (by kernel_rfl) (by intro _ _ _ h; exact h) HS (Or.inl ⟨by rfl, ?_⟩) ?_
            rotate_left
            · intro w hSw; (try dsimp only at hSw); go_simp; try with_reducible rfl
            try simp only [Act.put, List.setIfInBounds_toArray, List.set_cons_zero, List.set_cons_succ]
            refine J.J_take (i := 5) (v := ?_) LAST (by rfl) (by decide) (by kernel_rfl) (by kernel_rfl) (by intro _ _ _ h; exact h) HS (Or.inl ⟨by rfl, ?_⟩) ?_
            rotate_left
            · intro w hSw; (try dsimp only at hSw); go_simp; try with_reducible rfl
            try simp only [Act.put, List.setIfInBounds_toArray, List.set_cons_zero, List.set_cons_succ]
            refine J.J_take (i := 6) (v := ?_) LAST (by rfl) (by decide) (by kernel_rfl) (by kernel_rfl) (by intro _ _ _ h; exact h) HS (Or.inl ⟨by rfl, ?_⟩) ?_
            rotate_left
            · intro w hSw; (try dsimp only at hSw); go_simp; try with_reducible rfl
            try simp only [Act.put, List.setIfInBounds_toArray, List.set_cons_zero, List.set_cons_succ]
            refine J.J_take (i := 7) (v := ?_) LAST (by rfl) (by decide) (by kernel_rfl) (by kernel_rfl) (by intro _ _ _ h; exact h) HS (Or.inl ⟨by rfl, ?_⟩) ?_
            rotate_left
            · intro w hSw; (try dsimp only at hSw); go_simp; try with_reducible rfl
            try simp only [Act.put, List.setIfInBounds_toArray, List.set_cons_zero, List.set_cons_succ]
            refine J.J_take (i := 8) (v := ?_) LAST (by rfl) (by decide) (by kernel_rfl) (by kernel_rfl) (by intro _ _ _ h; exact h) HS (Or.inl ⟨by rfl, ?_⟩) ?_
            rotate_left
            · intro w hSw; (try dsimp only at hSw); go_simp; try with_reducible rfl
            try simp only [Act.put, List.setIfInBounds_toArray, List.set_cons_zero, List.set_cons_succ]
            refine J.J_take (i := 9) (v := ?_) LAST (by rfl) (by decide) (by kernel_rfl) (by kernel_rfl) (by intro _ _ _ h; exact h) HS (Or.inl ⟨by rfl, ?_⟩) ?_
            rotate_left
            · intro w hSw; (try dsimp only at hSw); go_simp; try with_reducible rfl
            try simp only [Act.put, List.setIfInBounds_toArray, List.set_cons_zero, List.set_cons_succ]
            refine J.J_take (i := 10) (v := ?_) LAST (by rfl) (by decide) (by kernel_rfl) (by kernel_rfl) (by intro _ _ _ h; exact h) HS (Or.inl ⟨by rfl, ?_⟩) ?_
            rotate_left
            · intro w hSw; (try dsimp only at hSw); go_simp; try with_reducible rfl
            try simp only [Act.put, List.setIfInBounds_toArray, List.set_cons_zero, List.set_cons_succ]
            refine J.J_take (i := 11) (v := ?_) LAST (by rfl) (by decide) (by kernel_rfl) (by kernel_rfl) (by intro _ _ _ h; exact h) HS (Or.inl ⟨by rfl, ?_⟩) ?_
            rotate_left
            · intro w hSw; (try dsimp only at hSw); go_simp; try with_reducible rfl
            try simp only [Act.put, List.setIfInBounds_toArray, List.set_cons_zero, List.set_cons_succ]
            refine J.J_last (by rfl) (by kernel_rfl) (by kernel_rfl) ?_
            go_simp
            go_wp2_with fail
            go_meet
            exact ⟨blk_set (show (wr.drewN _).heap[P]? = _ from PB.out) 0 _, (U0.out _).setCell (.inl (by simp)) _⟩
          obtain ⟨hpb, huw⟩ := hcut
          have HPB := hid hpb
          have HUW := hid huw
          have hsz2 : P < wc.heap.size := Nat.lt_of_lt_of_le hsz huw.size
          have d0 : wc.cell? ⟨P, 0, none⟩ = some (.int .u32 (sq : Int)) := (blk_cell hpb 0).trans rfl
          have d1 : wc.cell? ⟨P, 1, none⟩ = some (.int .u32 (wa : Int)) := (blk_cell hpb 1).trans rfl
          have d2 : wc.cell? ⟨P, 2, none⟩ = some (.bool false) := (blk_cell hpb 2).trans rfl
          have d3 : wc.cell? ⟨P, 3, none⟩ = some (.int .i64 ((wd - r : Nat) : Int)) := (blk_cell hpb 3).trans rfl
          have d4 : wc.cell? ⟨P, 4, none⟩ = some (.slice none 0 0) := (blk_cell hpb 4).trans rfl
          have PK3 : Hid (wc.ownsRow (P + 1) 34 5 (.slice oa 0 oc) 0 []) := hid (own_upd PK1'.out huw (fun k hk hs => by simp at hs; subst hs; have := GP.out k hk; omega))
          clear hpb huw z0 z1
          go_upto_region 10 with (first | (at_builtin; refine wpList_app (W := wc) rfl (.tmp 91) (.tmp 93) 30 rfl (P + 1) 34 i34 _ 5 48 Try.underlying30 HI34.out HA34.out HB34.out HC34.out rfl (by decide) (.slice oa 0 oc) 0 [] rfl PK3.out [.int .u32 (sq : Int), .int .u32 (wa : Int), .bool false, .int .i64 ((wd - r : Nat) : Int), .slice none 0 0] 34 (by first | rfl | (rw [World.size_alloc]; rfl)) rfl (by intro u hu; simp at hu; rcases hu with rfl | rfl | rfl | rfl | rfl <;> rfl) (by omega) (by omega) (by omega) ?_; intro v5 w5 ho hu5 hl5; have HO5 := hid ho; have HU5 := hid hu5; clear ho hu5 hl5))
          have nown : NoB wr (P :: (Value.slice oa 0 oc).ownBlock.toList) := fun s hs hx => by
            rcases List.mem_cons.1 hs with q | q
            · exact HNB.out s (by simp [q]) hx
            · obtain ⟨cur, hb⟩ := own_block PK1'.out s (by simpa using q)
              obtain ⟨cur', f', hx⟩ := hx
              rw [hb] at hx
              simp at hx
          have ut : Upd (P :: (Value.slice oa 0 oc).ownBlock.toList) wr w5 := (HUW.out.mono (fun s hs => .inl (by simp at hs; simp [hs]))).trans HU5.out (fun t ht => .inl (by simp [ht]))
          have hfoot : ∀ s ∈ P :: (Value.slice oa 0 oc).ownBlock.toList, s ∉ foot g (.slice ka n kk) (.slice ra r rk) := fun s hs hf => by
            have h1 := FP.out s hf
            rcases List.mem_cons.1 hs with q | q
            · omega
            · have := GP.out s (by simpa using q); omega
          have I5 := hid (I0.out.upd ut hfoot nown)
          have UT := hid ut
          have g7 : w5.cell? ⟨g, 7, none⟩ = some (.bool true) := by rw [HOW.out]; exact I5.out.cells.2.2.2.2.2.2.2.1
          have gf := I5.out.cells.2.2.2.2.2.2.2.2
          have GP5 := hid (own_ge HO5.out)
          clear nown ut hfoot d0 d1 d2 d3 d4 w32 w33
          go_wp2_with fail
          go_ret
          have us1 : Upd [g] w5 (w5.setCell ⟨g, 7, none⟩ (.bool false)) := (Upd.refl _ _).setCell (.inl (by simp)) _
          have I1 := I5.out
          have ng : NoB w5 [g] := fun s hs ⟨cur, f, hx⟩ => by simp at hs; subst hs; rw [I1.blk] at hx; simp at hx
          have hout : e.out = [e.ans] := by
            have h1 := HKI.out
            have h2 := HIM.out
            unfold E.out
            rw [← HTL.out, ← TP.out, if_neg (by omega), ← HOW.out]
            rfl
          refine ⟨_, rfl, ?_, ?_, ?_⟩
          · rw [hout]
            refine ⟨[.slice none 0 0], own_mono (base := P + 1) (own_upd ?_ us1 (fun k hk hs => by simp at hs; have := GP5.out k hk; have := gl2.out; omega)) (by have := HP.out; omega), (Bodies.snoc (Bodies.nil _) (Body.nil _))⟩
            have e2 : pkCells [e.ans] [.slice none 0 0] = [] ++ [.int .u32 (sq : Int), .int .u32 (wa : Int), .bool false, .int .i64 ((wd - r : Nat) : Int), .slice none 0 0] := by
              simp only [pkCells, pkVals, E.ans, HSQ.out, HWA.out, HWD.out, HR.out, HBA.out, HN.out]
              rfl
            rw [e2]
            exact HO5.out
          · rw [← HEND.out]
            refine ⟨_, _, ks, rs, I1.re us1 rfl rfl (blk_set I1.blk 7 _), by rw [HN.out, HR.out]⟩
          · have h1 := (Hu.out.trans UT.out (fun t ht => by
              rcases List.mem_cons.1 ht with q | q
              · exact .inr (by rw [q, HP.out]; exact Nat.le_refl _)
              · have := GP.out t (by simpa using q); exact .inr (by rw [← HP.out]; omega))).trans us1 (fun t ht => .inl (by simp at ht; subst ht; exact mem_foot.2 (.inl rfl)))
            rw [HN.out, HR.out] at h1
            exact h1
end Go.Proofs.Ytgkjkgooonicbaa.Lm
