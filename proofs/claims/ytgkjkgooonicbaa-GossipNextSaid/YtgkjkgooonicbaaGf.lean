/- Gossip: Tick. -/
import Derived.Test.YtgkjkgooonicbaaGe
namespace Go.Proofs.Ytgkjkgooonicbaa.Gs
open Go Go.RowKit Go.Proofs.Ytgkjkgooonicbaa Go.Proofs.Ytgkjkgooonicbaa.K Go.Proofs.Ytgkjkgooonicbaa.M Go.Proofs.Ytgkjkgooonicbaa.O

theorem step_put {w : World} {ops : Array Oper} {o : Oper} {a : Act} {KK : Act → World → Prop} {Q : Exit → Act → World → Prop} {E : Prop}
    (hg : o.guard = none) (mo x vo : Operand) (t : TypeId) (hop : o.op = Op.mapUpdate t mo x vo) (kt et : TypeId) (ht : Try.prog.underlying t = some (.map kt et)) (hk : Try.prog.underlying kt = some (.int .i64))
    (b : Nat) (m : Mp) (hm : a.eval mo = .map (some b)) (h : IsMap w b m) (k : Int) (v : Value) (hx : a.eval x = .int .i64 k) (hv : a.eval vo = v)
    (hK : ∀ w', IsMap w' b (mput m k v) → Upd [b] w w' → KK (a.put o.dst undef) w') :
    if Region.wanted o (yielded ops a.tmps) = true then Oper.wp Try.prog o a w KK Q else E := by
  have hw : Region.wanted o (yielded ops a.tmps) = true := by simp [Region.wanted, hg]
  rw [if_pos hw]
  obtain ⟨w', hrun, r1, r2⟩ := run_put (P := Try.prog) h ht hk k v
  unfold Oper.wp
  simp [execOp, hop, hm, hx, hv, hrun, Result.andThen]
  exact hK w' r1 r2
theorem step_del {w : World} {ops : Array Oper} {o : Oper} {a : Act} {KK : Act → World → Prop} {Q : Exit → Act → World → Prop} {E : Prop}
    (hg : o.guard = none) (mo x : Operand) (t kt : TypeId) (hop : o.op = Op.call { callee := Callee.builtin Builtin.delete, args := #[mo, x], argTypes := #[t, kt] }) (et : TypeId) (ht : Try.prog.underlying t = some (.map kt et)) (hk : Try.prog.underlying kt = some (.int .i64))
    (b : Nat) (m : Mp) (hm : a.eval mo = .map (some b)) (h : IsMap w b m) (k : Int) (hx : a.eval x = .int .i64 k)
    (hK : ∀ w', IsMap w' b (mdel m k) → Upd [b] w w' → KK (a.put o.dst (.tuple #[])) w') :
    if Region.wanted o (yielded ops a.tmps) = true then Oper.wp Try.prog o a w KK Q else E := by
  have hw : Region.wanted o (yielded ops a.tmps) = true := by simp [Region.wanted, hg]
  rw [if_pos hw]
  obtain ⟨w', hrun, r1, r2⟩ := run_del (P := Try.prog) h ht hk o.type k
  unfold Oper.wp
  simp [execOp, hop, resolve, invoke, builtin, hm, hx, hrun, Result.andThen]
  exact hK w' r1 r2
theorem look_of {w : World} {b : Nat} {f : Nat → Nat} (h : HasMap w b f) (k : Nat) : (Instr.lookup 84 (.map (some b)) (.int .i64 (k : Int)) false).run Try.prog w = .ok (.int .i64 (f k : Int)) w := by
  obtain ⟨m, hm, _, hf⟩ := h
  have := (run_look (P := Try.prog) hm Try.underlying84 Try.underlying3 (Try.zeroValue3 _) (k : Int)).1
  rw [hf k] at this
  exact this

theorem HasMap.of_put_del {w' : World} {b : Nat} {m : Mp} {f : Nat → Nat} (hn : (m.map (·.1)).Nodup) (hf : ∀ t : Nat, (mlook m (t : Int)).getD (.int .i64 0) = .int .i64 (f t : Int)) {t v : Nat} (h : IsMap w' b (mdel (mput m (t : Int) (.int .i64 (v : Int))) (t : Int))) : HasMap w' b (at1 (at1 f t v) t 0) :=
  HasMap.of_del (mput_keys _ _ m hn).1 (fun x => by
    rw [mlook_put]
    unfold at1
    by_cases c : x = t
    · subst c; simp
    · rw [if_neg (by omega), if_neg c]; exact hf x) h

/-- What a tick does at row number i. -/
def tick1 (s : G) (i : Nat) : G :=
  if (s.rows.getD i noRow).says = 2 then
    (if s.ticks ≤ s.since (s.rows.getD i noRow).node + 1 then { s with rows := sayAt s.rows i 3, since := at1 (at1 s.since (s.rows.getD i noRow).node (s.since (s.rows.getD i noRow).node + 1)) (s.rows.getD i noRow).node 0 }
     else { s with since := at1 s.since (s.rows.getD i noRow).node (s.since (s.rows.getD i noRow).node + 1) })
  else s
def tickN (s : G) : Nat → G
  | 0 => s
  | k + 1 => tick1 (tickN s k) k
theorem tick1_len (s : G) (i : Nat) : (tick1 s i).rows.length = s.rows.length ∧ (tick1 s i).ticks = s.ticks := by
  unfold tick1
  split
  · split
    · exact ⟨sayAt_len _ _ _, rfl⟩
    · exact ⟨rfl, rfl⟩
  · exact ⟨rfl, rfl⟩
theorem tickN_len (s : G) : ∀ k, (tickN s k).rows.length = s.rows.length ∧ (tickN s k).ticks = s.ticks
  | 0 => ⟨rfl, rfl⟩
  | k + 1 => by
    obtain ⟨a1, a2⟩ := tick1_len (tickN s k) k
    obtain ⟨b1, b2⟩ := tickN_len s k
    exact ⟨a1.trans b1, a2.trans b2⟩
theorem tick1_since (s : G) (i c : Nat) (h : ∀ x, s.since x ≤ c) : ∀ x, (tick1 s i).since x ≤ c + 1 := fun x => by
  have hx := h x
  have hn := h (s.rows.getD i noRow).node
  unfold tick1
  split
  · split
    · show at1 (at1 s.since _ _) _ _ x ≤ _
      unfold at1
      split
      · omega
      · first | omega | (split <;> omega)
    · show at1 s.since _ _ x ≤ _
      unfold at1
      first | omega | (split <;> omega)
  · omega

set_option maxHeartbeats 4000000 in
set_option maxRecDepth 100000 in
theorem tick_any {w : World} {F : List Nat} {g : Nat} {s : G} (h : IsG w F g s) (h8 : s.rows.length ≤ 100) (hsn : ∀ x, s.since x ≤ 100000) :
    Calls Try.prog 31 #[.pointer (some ⟨g, 0, none⟩)] w fun e w' => e = .returned (.tuple #[]) ∧ IsG w' F g (tickN s s.rows.length) ∧ Upd F w w' := by
  obtain ⟨v, b, h0, hF⟩ := h
  have c2 := h0.cells.2.2.1
  obtain ⟨a, k, e1, l1, l2, -⟩ := own_view h0.rows
  subst e1
  obtain ⟨n, hn⟩ : ∃ n, n = s.rows.length := ⟨_, rfl⟩
  rw [← hn] at c2 l1 h8
  have H0 := hid h0
  have HF := hid hF
  have HN := hid hn
  have HSN := hid hsn
  clear h0 hF hn hsn
  go_enter Try.func31, Try.ntmps31
  go_wp2_with fail
  go_loopg [9] n (fun d v9 wr => ∃ (i : Nat), v9 = .int .i64 (i : Int) ∧ i ≤ n ∧ Hid (i + d = n) ∧ Hid (IsG0 wr g (tickN s i) (.slice a n k) b) ∧ Hid (∀ x, (tickN s i).since x ≤ 100000 + i) ∧ Hid (Upd F w wr))
  case atStart => exact ⟨0, rfl, by omega, hid (by omega), hid (by rw [HN.out]; exact H0.out), hid (fun x => HSN.out x), hid (Upd.refl _ _)⟩
  case round =>
    clear c2
    obtain ⟨i, rfl, hi, Hd, HG, HC, HU⟩ := hrel
    by_cases hin : i < n
    · have hil : i < (tickN s i).rows.length := by rw [(tickN_len s i).1, ← HN.out]; exact hin
      obtain ⟨r, k', e, c0, c1, c2, cf, -, -⟩ := HG.out.row hil
      simp only [Value.slice.injEq] at e
      obtain ⟨rfl, -, rfl⟩ := e
      have cg2 := HG.out.cells.2.2.1
      have hi' : (i : Int) < (n : Int) := by omega
      obtain ⟨nd, hnd⟩ : ∃ x, x = ((tickN s i).rows.getD i noRow).node := ⟨_, rfl⟩
      obtain ⟨sa, hsa⟩ : ∃ x, x = ((tickN s i).rows.getD i noRow).says := ⟨_, rfl⟩
      rw [← hnd] at c0
      rw [← hsa] at c2
      have HND := hid hnd
      have HSA := hid hsa
      have HIL := hid hil
      have HCF := hid cf
      clear c1 hnd hsa hil cf
      by_cases hs2 : sa = 2
      · subst hs2
        obtain ⟨c, hc⟩ : ∃ c, c = (tickN s i).since nd := ⟨_, rfl⟩
        have hcb : c ≤ 100000 + i := by rw [hc]; exact HC.out nd
        have lk : (Instr.lookup 84 (.map (some b)) (.int .i64 (nd : Int)) false).run Try.prog wr = .ok (.int .i64 (c : Int)) wr := by rw [hc]; exact look_of HG.out.map nd
        obtain ⟨m, hm, hnd2, hf⟩ := HG.out.map
        have HM := hid hm
        have HN2 := hid hnd2
        have HFF := hid hf
        have CG := hid HG.out.cells
        have cg3 := CG.out.2.2.2.1
        have E := hid (show IntKind.i64.wrap ((c : Int) + 1) = ((c + 1 : Nat) : Int) by have := IntWalk.i64_in ((c : Int) + 1) (by omega); omega)
        obtain ⟨tk, htk⟩ : ∃ x, x = s.ticks := ⟨_, rfl⟩
        have ET := hid (show (tickN s i).ticks = tk by rw [(tickN_len s i).2, htk])
        have HTK := hid htk
        have HCC := hid hc
        obtain ⟨G1, hG1⟩ : ∃ x, x = { tickN s i with since := at1 (tickN s i).since nd (c + 1) } := ⟨_, rfl⟩
        have HG1 := hid hG1
        clear hm hnd2 hf hc htk hG1
        have KEEP := hid (show ∀ wz, Upd [] wr wz → wz.cell? ⟨g, 3, none⟩ = some (.map (some b)) ∧ wz.cell? ⟨r, i * 3, none⟩ = some (.int .i64 (nd : Int)) ∧ (Instr.lookup 84 (.map (some b)) (.int .i64 (nd : Int)) false).run Try.prog wz = .ok (.int .i64 (c : Int)) wz from fun wz u => ⟨u.cell cg3 (by simp), u.cell c0 (by simp), by rw [HCC.out]; exact look_of (HG.out.new u).map nd⟩)
        clear cg3 c0 lk
        go_upto_region 5 with (fail)
        have U0 : Hid (∀ k, Upd [] wr (wr.drewN k)) := hid (fun k => (Upd.refl [] wr).drewN k)
        refine J.J_begin (fun wz => wz.cell? ⟨g, 3, none⟩ = some (.map (some b)) ∧ wz.cell? ⟨r, i * 3, none⟩ = some (.int .i64 (nd : Int)) ∧ (Instr.lookup 84 (.map (some b)) (.int .i64 (nd : Int)) false).run Try.prog wz = .ok (.int .i64 (c : Int)) wz) 10 (by kernel_rfl) ⟨by kernel_rfl, by kernel_rfl, by kernel_rfl⟩ (KEEP.out _ ((Upd.refl [] wr).drew)) (fun LAST HS => ?_)
        refine J.J_take (i := 0) (v := ?_) LAST (by rfl) (by decide) (by kernel_rfl) (by kernel_rfl) (by intro _ _ _ h; exact h) HS (Or.inl ⟨by rfl, ?_⟩) ?_
        rotate_left
        · intro w hSw; (try dsimp only at hSw); go_simp; try with_reducible rfl
        try simp only [Act.put, List.setIfInBounds_toArray, List.set_cons_zero, List.set_cons_succ]
        refine J.J_take (i := 1) (v := ?_) LAST (by rfl) (by decide) (by kernel_rfl) (by kernel_rfl) (by intro _ _ _ h; exact h) HS (Or.inl ⟨by rfl, ?_⟩) ?_
        rotate_left
        · intro w hSw; (try dsimp only at hSw); go_simp; try with_reducible rfl
        try simp only [Act.put, List.setIfInBounds_toArray, List.set_cons_zero, List.set_cons_succ]
        refine J.J_take (i := 2) (v := ?_) LAST (by rfl) (by decide) (by kernel_rfl) (by kernel_rfl) (by intro _ _ _ h; exact h) HS (Or.inl ⟨by rfl, ?_⟩) ?_
        rotate_left
        · intro w hSw; (try dsimp only at hSw); go_simp; try with_reducible rfl
        try simp only [Act.put, List.setIfInBounds_toArray, List.set_cons_zero, List.set_cons_succ]
        refine J.J_take (i := 3) (v := ?_) LAST (by rfl) (by decide) (by kernel_rfl) (by kernel_rfl) (by intro _ _ _ h; exact h) HS (Or.inl ⟨by rfl, ?_⟩) ?_
        rotate_left
        · intro w hSw; (try dsimp only at hSw); go_simp; try with_reducible rfl
        try simp only [Act.put, List.setIfInBounds_toArray, List.set_cons_zero, List.set_cons_succ]
        refine J.J_take (i := 4) (v := ?_) LAST (by rfl) (by decide) (by kernel_rfl) (by kernel_rfl) (by intro _ _ _ h; exact h) HS (Or.inl ⟨by rfl, ?_⟩) ?_
        rotate_left
        · intro w hSw; (try dsimp only at hSw); go_simp; try with_reducible rfl
        try simp only [Act.put, List.setIfInBounds_toArray, List.set_cons_zero, List.set_cons_succ]
        refine J.J_take (i := 5) (v := ?_) LAST (by rfl) (by decide) (by kernel_rfl) (by kernel_rfl) (by intro _ _ _ h; exact h) HS (Or.inl ⟨by rfl, ?_⟩) ?_
        rotate_left
        · intro w hSw; (try dsimp only at hSw); go_simp; try with_reducible rfl
        try simp only [Act.put, List.setIfInBounds_toArray, List.set_cons_zero, List.set_cons_succ]
        refine J.J_take (i := 6) (v := ?_) LAST (by rfl) (by decide) (by kernel_rfl) (by kernel_rfl) (by intro _ _ _ h; exact h) HS (Or.inl ⟨by rfl, ?_⟩) ?_
        rotate_left
        · intro w hSw; (try dsimp only at hSw); go_simp; try with_reducible rfl
        try simp only [Act.put, List.setIfInBounds_toArray, List.set_cons_zero, List.set_cons_succ]
        refine J.J_take (i := 7) (v := ?_) LAST (by rfl) (by decide) (by kernel_rfl) (by kernel_rfl) (by intro _ _ _ h; exact h) HS (Or.inl ⟨by rfl, ?_⟩) ?_
        rotate_left
        · intro w hSw; (try dsimp only at hSw); go_simp; try with_reducible rfl
        try simp only [Act.put, List.setIfInBounds_toArray, List.set_cons_zero, List.set_cons_succ]
        refine J.J_take (i := 8) (v := ?_) LAST (by rfl) (by decide) (by kernel_rfl) (by kernel_rfl) (by intro _ _ _ h; exact h) HS (Or.inl ⟨by rfl, ?_⟩) ?_
        rotate_left
        · intro w hSw; (try dsimp only at hSw); go_simp; try with_reducible rfl
        try simp only [Act.put, List.setIfInBounds_toArray, List.set_cons_zero, List.set_cons_succ]
        have e1 := E.out
        refine J.J_take (i := 9) (v := ?_) LAST (by rfl) (by decide) (by kernel_rfl) (by kernel_rfl) (by intro _ _ _ h; exact h) HS (Or.inl ⟨by rfl, ?_⟩) ?_
        rotate_left
        · intro w hSw; (try dsimp only at hSw); go_simp; try with_reducible rfl
        try simp only [Act.put, List.setIfInBounds_toArray, List.set_cons_zero, List.set_cons_succ]
        clear e1
        refine J.J_last (by rfl) (by kernel_rfl) (by kernel_rfl) ?_
        refine step_put rfl (.tmp 26) (.tmp 30) (.tmp 32) 84 rfl 3 3 Try.underlying84 Try.underlying3 b m (by rfl) (HM.out.upd ((Upd.refl [] wr).drew) (by simp)) (nd : Int) (.int .i64 ((c + 1 : Nat) : Int)) (by rfl) (by rfl) ?_
        intro w1 hm1 hu1
        have HU1 := hid (((Upd.refl [b] wr).drew).trans hu1 (fun t ht => .inl ht))
        have hg1 : IsG0 w1 g G1 (.slice (some ⟨r, 0, none⟩) n k) b := by rw [HG1.out]; exact HG.out.map_set HU1.out (HasMap.of_put HN2.out HFF.out hm1)
        have HH1 := hid hg1
        have HM1 := hid hm1
        have CG1 := hid hg1.cells
        obtain ⟨r', k', e', c0', c1', c2', cf', -, -⟩ := hg1.row (i := i) (by rw [HG1.out]; exact HIL.out)
        simp only [Value.slice.injEq, Option.some.injEq, Addr.mk.injEq] at e'
        obtain ⟨⟨rfl, -, -⟩, -, rfl⟩ := e'
        have KEEP1 := hid (show ∀ wz, Upd [] w1 wz → wz.cell? ⟨g, 3, none⟩ = some (.map (some b)) ∧ wz.cell? ⟨r, i * 3, none⟩ = some (.int .i64 (nd : Int)) ∧ wz.cell? ⟨g, 1, none⟩ = some (.int .i64 (tk : Int)) ∧ (Instr.lookup 84 (.map (some b)) (.int .i64 (nd : Int)) false).run Try.prog wz = .ok (.int .i64 ((c + 1 : Nat) : Int)) wz from fun wz u => ⟨u.cell CG1.out.2.2.2.1 (by simp), u.cell (c0'.trans (by rw [HND.out, HG1.out])) (by simp), u.cell (CG1.out.2.1.trans (by rw [HG1.out, ← ET.out])) (by simp), by
            have := look_of (HH1.out.new u).map nd
            rw [this, HG1.out]
            simp [at1]⟩)
        have HCF1 := hid cf'
        have HC2 := hid c2'
        clear hm1 hu1 hg1 c0' c1' c2' cf' HS KEEP LAST
        go_simp
        go_upto_region 6 with (fail)
        refine J.J_begin (fun wz => wz.cell? ⟨g, 3, none⟩ = some (.map (some b)) ∧ wz.cell? ⟨r, i * 3, none⟩ = some (.int .i64 (nd : Int)) ∧ wz.cell? ⟨g, 1, none⟩ = some (.int .i64 (tk : Int)) ∧ (Instr.lookup 84 (.map (some b)) (.int .i64 (nd : Int)) false).run Try.prog wz = .ok (.int .i64 ((c + 1 : Nat) : Int)) wz) 13 (by kernel_rfl) ⟨by kernel_rfl, by kernel_rfl, by kernel_rfl⟩ (KEEP1.out _ ((Upd.refl [] w1).drew)) (fun LAST HS => ?_)
        refine J.J_take (i := 0) (v := ?_) LAST (by rfl) (by decide) (by kernel_rfl) (by kernel_rfl) (by intro _ _ _ h; exact h) HS (Or.inl ⟨by rfl, ?_⟩) ?_
        rotate_left
        · intro w hSw; (try dsimp only at hSw); go_simp; try with_reducible rfl
        try simp only [Act.put, List.setIfInBounds_toArray, List.set_cons_zero, List.set_cons_succ]
        refine J.J_take (i := 1) (v := ?_) LAST (by rfl) (by decide) (by kernel_rfl) (by kernel_rfl) (by intro _ _ _ h; exact h) HS (Or.inl ⟨by rfl, ?_⟩) ?_
        rotate_left
        · intro w hSw; (try dsimp only at hSw); go_simp; try with_reducible rfl
        try simp only [Act.put, List.setIfInBounds_toArray, List.set_cons_zero, List.set_cons_succ]
        refine J.J_take (i := 2) (v := ?_) LAST (by rfl) (by decide) (by kernel_rfl) (by kernel_rfl) (by intro _ _ _ h; exact h) HS (Or.inl ⟨by rfl, ?_⟩) ?_
        rotate_left
        · intro w hSw; (try dsimp only at hSw); go_simp; try with_reducible rfl
        try simp only [Act.put, List.setIfInBounds_toArray, List.set_cons_zero, List.set_cons_succ]
        refine J.J_take (i := 3) (v := ?_) LAST (by rfl) (by decide) (by kernel_rfl) (by kernel_rfl) (by intro _ _ _ h; exact h) HS (Or.inl ⟨by rfl, ?_⟩) ?_
        rotate_left
        · intro w hSw; (try dsimp only at hSw); go_simp; try with_reducible rfl
        try simp only [Act.put, List.setIfInBounds_toArray, List.set_cons_zero, List.set_cons_succ]
        refine J.J_take (i := 4) (v := ?_) LAST (by rfl) (by decide) (by kernel_rfl) (by kernel_rfl) (by intro _ _ _ h; exact h) HS (Or.inl ⟨by rfl, ?_⟩) ?_
        rotate_left
        · intro w hSw; (try dsimp only at hSw); go_simp; try with_reducible rfl
        try simp only [Act.put, List.setIfInBounds_toArray, List.set_cons_zero, List.set_cons_succ]
        refine J.J_take (i := 5) (v := ?_) LAST (by rfl) (by decide) (by kernel_rfl) (by kernel_rfl) (by intro _ _ _ h; exact h) HS (Or.inl ⟨by rfl, ?_⟩) ?_
        rotate_left
        · intro w hSw; (try dsimp only at hSw); go_simp; try with_reducible rfl
        try simp only [Act.put, List.setIfInBounds_toArray, List.set_cons_zero, List.set_cons_succ]
        refine J.J_take (i := 6) (v := ?_) LAST (by rfl) (by decide) (by kernel_rfl) (by kernel_rfl) (by intro _ _ _ h; exact h) HS (Or.inl ⟨by rfl, ?_⟩) ?_
        rotate_left
        · intro w hSw; (try dsimp only at hSw); go_simp; try with_reducible rfl
        try simp only [Act.put, List.setIfInBounds_toArray, List.set_cons_zero, List.set_cons_succ]
        refine J.J_take (i := 7) (v := ?_) LAST (by rfl) (by decide) (by kernel_rfl) (by kernel_rfl) (by intro _ _ _ h; exact h) HS (Or.inl ⟨by rfl, ?_⟩) ?_
        rotate_left
        · intro w hSw; (try dsimp only at hSw); go_simp; try with_reducible rfl
        try simp only [Act.put, List.setIfInBounds_toArray, List.set_cons_zero, List.set_cons_succ]
        refine J.J_take (i := 8) (v := ?_) LAST (by rfl) (by decide) (by kernel_rfl) (by kernel_rfl) (by intro _ _ _ h; exact h) HS (Or.inl ⟨by rfl, ?_⟩) ?_
        rotate_left
        · intro w hSw; (try dsimp only at hSw); go_simp; try with_reducible rfl
        try simp only [Act.put, List.setIfInBounds_toArray, List.set_cons_zero, List.set_cons_succ]
        refine J.J_take (i := 9) (v := ?_) LAST (by rfl) (by decide) (by kernel_rfl) (by kernel_rfl) (by intro _ _ _ h; exact h) HS (Or.inl ⟨by rfl, ?_⟩) ?_
        rotate_left
        · intro w hSw; (try dsimp only at hSw); go_simp; try with_reducible rfl
        try simp only [Act.put, List.setIfInBounds_toArray, List.set_cons_zero, List.set_cons_succ]
        refine J.J_take (i := 10) (v := ?_) LAST (by rfl) (by decide) (by kernel_rfl) (by kernel_rfl) (by intro _ _ _ h; exact h) HS (Or.inl ⟨by rfl, ?_⟩) ?_
        rotate_left
        · intro w hSw; (try dsimp only at hSw); go_simp; try with_reducible rfl
        try simp only [Act.put, List.setIfInBounds_toArray, List.set_cons_zero, List.set_cons_succ]
        refine J.J_take (i := 11) (v := ?_) LAST (by rfl) (by decide) (by kernel_rfl) (by kernel_rfl) (by intro _ _ _ h; exact h) HS (Or.inl ⟨by rfl, ?_⟩) ?_
        rotate_left
        · intro w hSw; (try dsimp only at hSw); go_simp; try with_reducible rfl
        try simp only [Act.put, List.setIfInBounds_toArray, List.set_cons_zero, List.set_cons_succ]
        refine J.J_take (i := 12) (v := ?_) LAST (by rfl) (by decide) (by kernel_rfl) (by kernel_rfl) (by intro _ _ _ h; exact h) HS (Or.inl ⟨by rfl, ?_⟩) ?_
        rotate_left
        · intro w hSw; (try dsimp only at hSw); go_simp; try with_reducible rfl
        try simp only [Act.put, List.setIfInBounds_toArray, List.set_cons_zero, List.set_cons_succ]
        refine J.J_last (by rfl) (by kernel_rfl) (by kernel_rfl) ?_
        by_cases hge : tk ≤ c + 1
        · have hge' : (tk : Int) ≤ (c : Int) + 1 := by omega
          have HGE := hid hge
          have cf1 := HCF1.out (i * 3 + 2)
          have cq1 := HC2.out
          clear hge
          go_simp
          go_upto_region 8 with (fail)
          obtain ⟨w2, hw2⟩ : ∃ w2, w2 = (w1.setCell ⟨r, i * 3 + 2, none⟩ (.int .i64 3)).drew := ⟨_, rfl⟩
          rw [← hw2]
          have hpr : i < G1.rows.length := by rw [HG1.out]; exact HIL.out
          have hnG : n = G1.rows.length := by
            have := own_view HH1.out.rows
            obtain ⟨a9, k9, e9, -⟩ := this
            simp only [Value.slice.injEq] at e9
            exact e9.2.1
          have H2 := hid (show IsG0 w2 g { G1 with rows := sayAt G1.rows i 3 } _ b by rw [hw2]; exact (HH1.out.say_set hnG hpr 3).new ((Upd.refl [] _).drew))
          have U2 := hid (show Upd [r] w1 w2 by rw [hw2]; exact ((Upd.refl _ w1).setCell (.inl (by simp)) _).drew)
          have br : b ≠ r := fun q => HH1.out.vb (by rw [q]; rfl)
          have HM2 := hid (HM1.out.upd U2.out (by simpa using br))
          have KEEP2 := hid (show ∀ wz, Upd [] w2 wz → wz.cell? ⟨g, 3, none⟩ = some (.map (some b)) ∧ wz.cell? ⟨r, i * 3, none⟩ = some (.int .i64 (nd : Int)) from fun wz u => by
            have hl2 : i < (sayAt G1.rows i 3).length := by rw [sayAt_len]; exact hpr
            obtain ⟨r', k', e', c0', -⟩ := H2.out.row (i := i) hl2
            simp only [Value.slice.injEq, Option.some.injEq, Addr.mk.injEq] at e'
            obtain ⟨⟨rfl, -, -⟩, -, -⟩ := e'
            refine ⟨u.cell H2.out.cells.2.2.2.1 (by simp), u.cell (c0'.trans ?_) (by simp)⟩
            show some (Value.int .i64 (((sayAt G1.rows i 3).getD i noRow).node : Int)) = _
            rw [HND.out, HG1.out]
            simp [sayAt, List.getD_eq_getElem?_getD, HIL.out])
          clear hw2 cf1 cq1 hnG br HS LAST KEEP1
          refine J.J_begin (fun wz => wz.cell? ⟨g, 3, none⟩ = some (.map (some b)) ∧ wz.cell? ⟨r, i * 3, none⟩ = some (.int .i64 (nd : Int))) 8 (by kernel_rfl) ⟨by kernel_rfl, by kernel_rfl, by kernel_rfl⟩ (KEEP2.out _ ((Upd.refl [] w2).drew)) (fun LAST HS => ?_)
          refine J.J_take (i := 0) (v := ?_) LAST (by rfl) (by decide) (by kernel_rfl) (by kernel_rfl) (by intro _ _ _ h; exact h) HS (Or.inl ⟨by rfl, ?_⟩) ?_
          rotate_left
          · intro w hSw; (try dsimp only at hSw); go_simp; try with_reducible rfl
          try simp only [Act.put, List.setIfInBounds_toArray, List.set_cons_zero, List.set_cons_succ]
          refine J.J_take (i := 1) (v := ?_) LAST (by rfl) (by decide) (by kernel_rfl) (by kernel_rfl) (by intro _ _ _ h; exact h) HS (Or.inl ⟨by rfl, ?_⟩) ?_
          rotate_left
          · intro w hSw; (try dsimp only at hSw); go_simp; try with_reducible rfl
          try simp only [Act.put, List.setIfInBounds_toArray, List.set_cons_zero, List.set_cons_succ]
          refine J.J_take (i := 2) (v := ?_) LAST (by rfl) (by decide) (by kernel_rfl) (by kernel_rfl) (by intro _ _ _ h; exact h) HS (Or.inl ⟨by rfl, ?_⟩) ?_
          rotate_left
          · intro w hSw; (try dsimp only at hSw); go_simp; try with_reducible rfl
          try simp only [Act.put, List.setIfInBounds_toArray, List.set_cons_zero, List.set_cons_succ]
          refine J.J_take (i := 3) (v := ?_) LAST (by rfl) (by decide) (by kernel_rfl) (by kernel_rfl) (by intro _ _ _ h; exact h) HS (Or.inl ⟨by rfl, ?_⟩) ?_
          rotate_left
          · intro w hSw; (try dsimp only at hSw); go_simp; try with_reducible rfl
          try simp only [Act.put, List.setIfInBounds_toArray, List.set_cons_zero, List.set_cons_succ]
          refine J.J_take (i := 4) (v := ?_) LAST (by rfl) (by decide) (by kernel_rfl) (by kernel_rfl) (by intro _ _ _ h; exact h) HS (Or.inl ⟨by rfl, ?_⟩) ?_
          rotate_left
          · intro w hSw; (try dsimp only at hSw); go_simp; try with_reducible rfl
          try simp only [Act.put, List.setIfInBounds_toArray, List.set_cons_zero, List.set_cons_succ]
          refine J.J_take (i := 5) (v := ?_) LAST (by rfl) (by decide) (by kernel_rfl) (by kernel_rfl) (by intro _ _ _ h; exact h) HS (Or.inl ⟨by rfl, ?_⟩) ?_
          rotate_left
          · intro w hSw; (try dsimp only at hSw); go_simp; try with_reducible rfl
          try simp only [Act.put, List.setIfInBounds_toArray, List.set_cons_zero, List.set_cons_succ]
          refine J.J_take (i := 6) (v := ?_) LAST (by rfl) (by decide) (by kernel_rfl) (by kernel_rfl) (by intro _ _ _ h; exact h) HS (Or.inl ⟨by rfl, ?_⟩) ?_
          rotate_left
          · intro w hSw; (try dsimp only at hSw); go_simp; try with_reducible rfl
          try simp only [Act.put, List.setIfInBounds_toArray, List.set_cons_zero, List.set_cons_succ]
          refine J.J_take (i := 7) (v := ?_) LAST (by rfl) (by decide) (by kernel_rfl) (by kernel_rfl) (by intro _ _ _ h; exact h) HS (Or.inl ⟨by rfl, ?_⟩) ?_
          rotate_left
          · intro w hSw; (try dsimp only at hSw); go_simp; try with_reducible rfl
          try simp only [Act.put, List.setIfInBounds_toArray, List.set_cons_zero, List.set_cons_succ]
          refine J.J_last (by rfl) (by kernel_rfl) (by kernel_rfl) ?_
          refine step_del rfl (.tmp 53) (.tmp 57) 84 3 rfl 3 Try.underlying84 Try.underlying3 b _ (by rfl) (HM2.out.upd ((Upd.refl [] w2).drew) (by simp)) (nd : Int) (by rfl) ?_
          intro w3 hm3 hu3
          have HU3 := hid (((Upd.refl [b] w2).drew).trans hu3 (fun t ht => .inl ht))
          have hb3 : HasMap w3 b (at1 (at1 (tickN s i).since nd (c + 1)) nd 0) := by
            exact HasMap.of_put_del HN2.out HFF.out hm3
          clear hm3 hu3
          go_simp
          go_wp2_with fail
          go_roundg (n - (i + 1))
          case measure => have := Hd.out; omega
          case rel =>
            have e1 : tick1 (tickN s i) i = { tickN s i with rows := sayAt (tickN s i).rows i 3, since := at1 (at1 (tickN s i).since nd (c + 1)) nd 0 } := by
              unfold tick1
              rw [if_pos HSA.out.symm, if_pos (by rw [← HND.out, ← HCC.out, ET.out]; exact HGE.out), ← HND.out, ← HCC.out]
            exact ⟨i + 1, by go_num, by omega, hid (by omega), hid (by
              show IsG0 _ g (tick1 (tickN s i) i) _ b
              rw [e1]
              have := H2.out.map_set HU3.out hb3
              rw [HG1.out] at this
              exact this), hid (tick1_since _ _ _ HC.out), hid (((HU.out.trans HU1.out (fun x hx => .inl (by rw [HF.out]; simp at hx; subst hx; exact mem_foot.2 (.inr (.inl rfl))))).trans U2.out (fun x hx => .inl (by rw [HF.out]; simp at hx; subst hx; exact mem_foot.2 (.inr (.inr rfl))))).trans HU3.out (fun x hx => .inl (by rw [HF.out]; simp at hx; subst hx; exact mem_foot.2 (.inr (.inl rfl)))))⟩
        · have hge' : ¬ (tk : Int) ≤ (c : Int) + 1 := by omega
          have HGE := hid hge
          clear hge
          go_simp
          go_wp2_with fail
          go_roundg (n - (i + 1))
          case measure => have := Hd.out; omega
          case rel =>
            have e1 : tick1 (tickN s i) i = { tickN s i with since := at1 (tickN s i).since nd (c + 1) } := by
              unfold tick1
              rw [if_pos HSA.out.symm, if_neg (by rw [← HND.out, ← HCC.out, ET.out]; exact HGE.out), ← HND.out, ← HCC.out]
            exact ⟨i + 1, by go_num, by omega, hid (by omega), hid (by
              show IsG0 _ g (tick1 (tickN s i) i) _ b
              rw [e1, ← HG1.out]
              exact HH1.out.new ((Upd.refl [] w1).drew)), hid (tick1_since _ _ _ HC.out), hid ((HU.out.trans HU1.out (fun x hx => .inl (by rw [HF.out]; simp at hx; subst hx; exact mem_foot.2 (.inr (.inl rfl))))).drew)⟩
      · have hs2' : ((sa : Int) != 2) = true := by rw [bne_iff_ne]; omega
        have e1 : tick1 (tickN s i) i = tickN s i := by unfold tick1; rw [if_neg (by rw [← HSA.out]; exact hs2)]
        have E1 := hid e1
        clear hs2 e1
        go_wp2_with fail
        go_roundg (n - (i + 1))
        case measure => have := Hd.out; omega
        case rel => exact ⟨i + 1, by go_num, by omega, hid (by omega), hid (by show IsG0 _ g (tick1 (tickN s i) i) _ b; rw [E1.out]; exact HG.out), hid (fun x => by show (tick1 (tickN s i) i).since x ≤ _; rw [E1.out]; have := HC.out x; omega), HU⟩
    · obtain rfl : i = n := by omega
      go_wp2_with fail
      go_end0
      exact ⟨rfl, ⟨_, b, by rw [← HN.out]; exact HG.out, by rw [HF.out, HN.out]⟩, HU.out⟩
end Go.Proofs.Ytgkjkgooonicbaa.Gs
