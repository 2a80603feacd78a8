/- An end of a line: Put. -/
import Derived.Test.YtgkjkgooonicbaaLp
import Derived.BigQuiet
import Derived.Deep.QuietTactic
namespace Go.Proofs.Ytgkjkgooonicbaa.Lm
open Go Go.RowKit Go.Proofs.Ytgkjkgooonicbaa Go.Proofs.Ytgkjkgooonicbaa.K Go.Proofs.Ytgkjkgooonicbaa.M Go.Proofs.Ytgkjkgooonicbaa.O

def eput (e : E) (b : List Nat) : E := { e with kept := e.kept ++ [b] }
set_option maxHeartbeats 2000000 in
set_option maxRecDepth 100000 in
theorem put_no {w : World} {F : List Nat} {g : Nat} {e : E} (h : IsE w F g e) (a : Option Addr) (m k : Nat) (hm : m ≤ 1048576) (hf : e.kept.length = e.window) :
    Calls Try.prog 16 #[.pointer (some ⟨g, 0, none⟩), .slice a m k] w fun r w' => r = .returned (.int .i64 9) ∧ IsE w' F g e ∧ Upd [] w w' := by
  have HE := hid h
  obtain ⟨vk, vr, ks, rs, h0, hF⟩ := h
  obtain ⟨c0, -, c2, -⟩ := h0.cells
  obtain ⟨ka, kk, e1, l1, l2, -⟩ := own_view h0.kept
  rw [hf] at e1 l1
  obtain ⟨n, hn⟩ : ∃ n, n = e.window := ⟨_, rfl⟩
  rw [e1, ← hn] at c2
  rw [← hn] at c0 l1
  have hm' : ¬ (1048576 : Int) < (m : Int) := by omega
  clear h0 hF hf e1 hn
  go_enter Try.func16, Try.ntmps16
  go_wp2_with fail
  go_quiet (fail)
  go_wp2_with fail
  go_ret
  exact ⟨rfl, HE.out.new ((Upd.refl _ _).drewN _), (Upd.refl _ _).drewN _⟩

set_option maxHeartbeats 4000000 in
set_option maxRecDepth 100000 in
theorem put_yes {w : World} {F : List Nat} {g : Nat} {e : E} (h : IsE w F g e) (v : Value) (b : List Nat) (hb : Body w v b) (hm : b.length ≤ 1048576) (hf : e.kept.length < e.window) (hw : e.window ≤ 16) :
    Calls Try.prog 16 #[.pointer (some ⟨g, 0, none⟩), v] w fun r w' => ∃ F', r = .returned (.int .i64 0) ∧ IsE w' F' g (eput e b) ∧ Fresh w F F' ∧ Upd F w w' := by
  obtain ⟨i29, hi29, hz29a, hz29b, hz29c⟩ := info_parts info29
  have HI29 := hid hi29
  have HA29 := hid hz29a
  have HB29 := hid hz29b
  have HC29 := hid hz29c
  clear hi29 hz29a hz29b hz29c
  have HBD := hid hb
  have HML := hid hm
  have HE := hid h
  obtain ⟨ba, bk, rfl, bl1, bl2, -, -⟩ := hb
  obtain ⟨vk, vr, ks, rs, h0, hF⟩ := h
  obtain ⟨c0, -, c2, -⟩ := h0.cells
  obtain ⟨ka, kk, e1, l1, l2, -⟩ := own_view h0.kept
  subst e1
  obtain ⟨n, hn⟩ : ∃ n, n = e.kept.length := ⟨_, rfl⟩
  obtain ⟨m, hmm⟩ : ∃ m, m = b.length := ⟨_, rfl⟩
  obtain ⟨wd, hwd⟩ : ∃ wd, wd = e.window := ⟨_, rfl⟩
  rw [← hn] at c2 l1 hf
  rw [← hwd] at c0 hf hw
  rw [← hmm] at bl1 hm
  have OW := hid h0.kept
  have gl := World.block_lt_of_cell? w _ c0
  simp only at gl
  have H0 := hid h0
  have HF := hid hF
  have HN := hid hn
  have HMM := hid hmm
  have hm' : ¬ (1048576 : Int) < (m : Int) := by omega
  have hne : ((n : Int) == (wd : Int)) = false := by rw [beq_eq_false_iff_ne]; omega
  rw [← hmm]
  clear h0 hF hn hmm hwd
  go_enter Try.func16, Try.ntmps16
  go_wp2_with fail
  go_quiet (fail)
  go_upto_region 5 with (fail)
  have KEEP : Hid (∀ wz, Upd [] w wz → wz.cell? ⟨g, 2, none⟩ = some (.slice ka n kk)) := hid (fun wz u => u.cell c2 (by simp))
  have GL := hid gl
  have U0 : Hid (∀ k, Upd [] w (w.drewN k)) := hid (fun k => (Upd.refl [] w).drewN k)
  clear c0 hne
  refine J.J_begin (fun wz => wz.cell? ⟨g, 2, none⟩ = some (.slice ka n kk)) 11 (by kernel_rfl) ⟨by kernel_rfl, by kernel_rfl, by kernel_rfl⟩ (KEEP.out _ (U0.out _).drew) (fun LAST HS => ?_)
  refine J.J_take (i := 0) (v := ?_) LAST (by rfl) (by decide) (by kernel_rfl) (by kernel_rfl) (by intro _ _ _ h; exact h) HS (Or.inl ⟨by rfl, ?_⟩) ?_
  rotate_left
  · intro w hSw; (try dsimp only at hSw); go_simp; try with_reducible rfl
  try simp only [Act.put, List.setIfInBounds_toArray, List.set_cons_zero, List.set_cons_succ]
  refine J.J_take (i := 1) (v := ?_) LAST (by rfl) (by decide) (by kernel_rfl) (by kernel_rfl) (by intro _ _ _ h; exact h) HS (Or.inl ⟨by rfl, ?_⟩) ?_
  rotate_left
  · intro w hSw; (try dsimp only at hSw); go_simp; try with_reducible rfl
  try simp only [Act.put, List.setIfInBounds_toArray, List.set_cons_zero, List.set_cons_succ]
  refine J.J_take (i := 2) (v := ?_) LAST (by rfl) (by decide) (by kernel_rfl) (by kernel_rfl) (by intro _ _ _ h; exact h) HS (Or.inl ⟨by rfl, ?_⟩) ?_
  rotate_left
  · intro w hSw; (try dsimp only at hSw); go_simp; try with_reducible rfl
  try simp only [Act.put, List.setIfInBounds_toArray, List.set_cons_zero, List.set_cons_succ]
  refine J.J_take (i := 3) (v := ?_) LAST (by rfl) (by decide) (by kernel_rfl) (by kernel_rfl) (by intro _ _ _ h; exact h) HS (Or.inl ⟨by rfl, ?_⟩) ?_
  rotate_left
  · intro w hSw; (try dsimp only at hSw); go_simp; try with_reducible rfl
  try simp only [Act.put, List.setIfInBounds_toArray, List.set_cons_zero, List.set_cons_succ]
  refine J.J_take (i := 4) (v := ?_) LAST (by rfl) (by decide) (by kernel_rfl) (by kernel_rfl) (by intro _ _ _ h; exact h) HS (Or.inl ⟨by rfl, ?_⟩) ?_
  rotate_left
  · intro w hSw; (try dsimp only at hSw); go_simp; try with_reducible rfl
  try simp only [Act.put, List.setIfInBounds_toArray, List.set_cons_zero, List.set_cons_succ]
  refine J.J_take (i := 5) (v := ?_) LAST (by rfl) (by decide) (by kernel_rfl) (by kernel_rfl) (by intro _ _ _ h; exact h) HS (Or.inl ⟨by rfl, ?_⟩) ?_
  rotate_left
  · intro w hSw; (try dsimp only at hSw); go_simp; try with_reducible rfl
  try simp only [Act.put, List.setIfInBounds_toArray, List.set_cons_zero, List.set_cons_succ]
  refine J.J_one (i := 6) (by rfl) (by decide) (by kernel_rfl) (fun KK hK => ?_)
  go_simp
  rw [HMM.out]
  refine (clone_body (HBD.out.upd (U0.out _) (NoB.nil w)) (by have := HML.out; omega)).mono ?_
  rintro r w1 ⟨v', rfl, hb1, hu1⟩
  obtain ⟨va, vc, ev, -⟩ := id hb1
  rw [← HMM.out] at ev
  subst ev
  have HB1 := hid hb1
  have U1 := hid ((U0.out _).trans hu1 (fun t ht => by cases ht))
  clear hb1 hu1
  rw [← HMM.out]
  have HS1 := KEEP.out _ U1.out
  go_wp2_with fail
  refine hK.out _ _ HS1 ?_
  clear hK KK HS
  try simp only [List.setIfInBounds_toArray]
  refine J.J_one (i := 7) (by rfl) (by decide) (by kernel_rfl) (fun KK hK => ?_)
  go_simp
  refine hK.out _ _ (KEEP.out _ (U1.out.alloc _)) ?_
  clear hK KK
  try simp only [List.setIfInBounds_toArray]
  have n1 := hid (own_new OW.out (U1.out.alloc (.cells #[.slice va m vc] 29)))
  refine J.J_one (i := 8) (by rfl) (by decide) (by kernel_rfl) (fun KK hK => ?_)
  refine J.step_app rfl (.tmp 22) (.tmp 25) 37 rfl 0 29 i29 _ 1 24 Try.underlying37 HI29.out HA29.out HB29.out HC29.out rfl (by decide) (.slice ka n kk) n ks (by rfl) (by have := n1.out; rw [← HN.out] at this; exact this) ⟨w1.heap.size, 0, none⟩ 1 1 [.slice va m vc] (by rfl) rfl (fun j u hj => by rw [show (⟨w1.heap.size, 0, none⟩ : Addr).add j = ⟨w1.heap.size, j, none⟩ by unfold Addr.add; split <;> simp_all]; refine (K.blk_cell (blk_new _ _) j).trans ?_; simpa using hj) (by intro u hu; simp at hu; subst hu; rfl) (by unfold maxLen; omega) (by omega) (by omega) ?_
  intro v2 w2 ho hu2 hl2
  obtain ⟨a4, k4, e4, -⟩ := own_view ho
  subst e4
  have UW := hid (((Upd.refl [] w1).alloc (.cells #[.slice va m vc] 29)).mono (T := (Value.slice ka n kk).ownBlock.toList) (fun s hs => by cases hs) |>.trans hu2 (fun t ht => .inl ht))
  have U2 := hid ((U1.out.mono (T := (Value.slice ka n kk).ownBlock.toList) (fun s hs => by cases hs)).trans UW.out (fun t ht => .inl ht))
  have HO := hid ho
  have HL2 := hid hl2
  have gn : g ∉ (Value.slice ka n kk).ownBlock.toList := fun hg => by
    have := H0.out.gk
    rw [← HN.out] at this
    simp at hg
    exact this hg
  have b2 := hid (U2.out.blk H0.out.blk gn)
  have cz := (blk_cell b2.out 2).trans rfl
  have fz := blk_frozen b2.out 2
  have HS2 : w2.cell? ⟨g, 2, none⟩ = some (.slice ka n kk) := by rw [HN.out]; exact cz
  clear ho hu2 hl2 gn
  refine hK.out _ _ HS2 ?_
  clear hK KK HS1
  try simp only [Act.put, List.setIfInBounds_toArray, List.set_cons_zero, List.set_cons_succ]
  refine J.J_take (i := 9) (v := ?_) LAST (by rfl) (by decide) (by kernel_rfl) (by kernel_rfl) (by intro _ _ _ h; exact h) HS2 (Or.inl ⟨by rfl, ?_⟩) ?_
  rotate_left
  · intro w hSw; (try dsimp only at hSw); go_simp; try with_reducible rfl
  try simp only [Act.put, List.setIfInBounds_toArray, List.set_cons_zero, List.set_cons_succ]
  refine J.J_take (i := 10) (v := ?_) LAST (by rfl) (by decide) (by kernel_rfl) (by kernel_rfl) (by intro _ _ _ h; exact h) HS2 (Or.inl ⟨by rfl, ?_⟩) ?_
  rotate_left
  · intro w hSw; (try dsimp only at hSw); go_simp; try with_reducible rfl
  try simp only [Act.put, List.setIfInBounds_toArray, List.set_cons_zero, List.set_cons_succ]
  refine J.J_last (by rfl) (by kernel_rfl) (by kernel_rfl) ?_
  go_simp
  go_wp2_with fail
  go_ret
  have h0 := H0.out
  have hn := HN.out
  have us : Upd [g] w2 (w2.setCell ⟨g, 2, none⟩ (.slice a4 (n + 1) k4)) := (Upd.refl _ w2).setCell (.inl (by simp)) _
  have kF : ∀ s, s ∈ (Value.slice ka n kk).ownBlock.toList → s ∈ F := fun s hs => by
    rw [HF.out, ← hn]; simp at hs; exact mem_foot.2 (.inr (.inl hs))
  have nb2 : NoB w (Value.slice ka n kk).ownBlock.toList := fun s hs => HE.out.noB s (kF s hs)
  have sz1 : w.heap.size ≤ w1.heap.size := U1.out.size
  have nb1 : NoB w1 (Value.slice ka n kk).ownBlock.toList := fun s hs ⟨cur, f, hx⟩ => by
    obtain ⟨c', t', f', q1, q2⟩ := HE.out.at (kF s hs)
    rw [U1.out.blk q1 (by simp)] at hx
    rcases q2 with rfl | rfl <;> simp at hx
  have ng : NoB w2 [g] := fun s hs ⟨cur, f, hx⟩ => by simp at hs; subst hs; rw [b2.out] at hx; simp at hx
  have kne : ∀ x, (Value.slice a4 (n + 1) k4).ownBlock = some x → x ≠ g := own_cells_ne HO.out b2.out (by decide)
  have rk : ∀ x, vr.ownBlock = some x → x ∉ (Value.slice ka n kk).ownBlock.toList := fun x hx hs => by
    simp at hs
    rw [hn] at hs
    exact h0.kr x hs hx
  have rg : ∀ x, vr.ownBlock = some x → x ≠ g := own_cells_ne h0.read h0.blk (by decide)
  refine ⟨foot g (.slice a4 (n + 1) k4) vr, rfl, ⟨_, vr, ks ++ [.slice va m vc], rs, ⟨(blk_set b2.out 2 _).trans rfl, ?_, own_upd (own_upd h0.read U2.out rk) us (fun x hx hs => by simp at hs; exact rg x hx hs), ((h0.kb.upd U2.out nb2).snoc (HB1.out.upd UW.out nb1)).upd us ng, (h0.rb.upd U2.out nb2).upd us ng, fun x hx hr => ?_⟩, rfl⟩, fun s hs => ?_, (U2.out.mono (T := F) (fun s hs => .inl (kF s hs))).trans us (fun t ht => .inl ?_)⟩
  · have := own_upd HO.out us (fun x hx hs => by simp at hs; exact kne x hx hs)
    show World.ownsRow _ 0 29 1 _ (e.kept ++ [b]).length _
    rw [List.length_append, ← hn]; exact this
  · rcases HL2.out x hx with q | q
    · rw [hn] at q; exact h0.kr x q hr
    · have := own_lt h0.read x hr
      simp at q; omega
  · rcases mem_foot.1 hs with q | q | q
    · exact .inl (by rw [HF.out]; exact mem_foot.2 (.inl q))
    · rcases HL2.out s q with q | q
      · exact .inl (by rw [HF.out, ← hn]; exact mem_foot.2 (.inr (.inl q)))
      · exact .inr (by simp at q; omega)
    · exact .inl (by rw [HF.out]; exact mem_foot.2 (.inr (.inr q)))
  · simp at ht; subst ht; exact HE.out.gF
end Go.Proofs.Ytgkjkgooonicbaa.Lm
