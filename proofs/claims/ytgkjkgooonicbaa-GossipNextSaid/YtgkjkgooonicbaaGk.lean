/- Gossip: put. -/
import Derived.Test.YtgkjkgooonicbaaGj
namespace Go.Proofs.Ytgkjkgooonicbaa.Gs
open Go Go.RowKit Go.Proofs.Ytgkjkgooonicbaa Go.Proofs.Ytgkjkgooonicbaa.K Go.Proofs.Ytgkjkgooonicbaa.M Go.Proofs.Ytgkjkgooonicbaa.O

/-- What stands in a later turn, or in the same turn and says something worse. -/
def newer (x r : Row) : Bool := decide (x.turn < r.turn ∨ (x.turn = r.turn ∧ x.says < r.says))
theorem newer_or (x r : Row) : (orN (cmpN r.turn x.turn) (cmpN r.says x.says) ≤ 0) ↔ newer x r = false := by
  unfold orN cmpN newer
  rw [decide_eq_false_iff_not]
  by_cases h1 : r.turn < x.turn
  · simp [h1]; try omega
  · by_cases h2 : x.turn < r.turn
    · simp [h1, h2]
    · have : r.turn = x.turn := by omega
      simp [this]
      by_cases h3 : r.says < x.says
      · simp [h3]; try omega
      · by_cases h4 : x.says < r.says
        · simp [h3, h4]
        · simp [h3, h4]; try omega
def gput (s : G) (r : Row) : G :=
  if hasRow s.rows r.node = true then
    if newer (s.rows.getD (posOf s.rows r.node) noRow) r = true then
      if r.node = s.me then { s with rows := s.rows.set (posOf s.rows r.node) (if r.says = 1 then r else ⟨s.me, min (r.turn + 1) 1099511627776, 1⟩) }
      else { s with rows := s.rows.set (posOf s.rows r.node) r, since := at1 s.since r.node 0 }
    else s
  else { s with rows := insAt s.rows (posOf s.rows r.node) r, since := at1 s.since r.node 0 }
def Fresh (w : World) (F F' : List Nat) : Prop := ∀ x ∈ F', x ∈ F ∨ w.heap.size ≤ x
def rowVal (r : Row) : Value := .agg (rowVals r).toArray

set_option maxHeartbeats 4000000 in
set_option maxRecDepth 100000 in
theorem put_new {w : World} {F : List Nat} {g : Nat} {s : G} (h : IsG w F g s) (hs : Sorted s.rows) (h8 : s.rows.length ≤ 100) (h0 : 0 < s.rows.length) (r : Row) (hr : hasRow s.rows r.node = false) :
    Calls Try.prog 47 #[.pointer (some ⟨g, 0, none⟩), rowVal r] w fun e w' => e = .returned (.tuple #[]) ∧ ∃ F', IsG w' F' g { s with rows := insAt s.rows (posOf s.rows r.node) r, since := at1 s.since r.node 0 } ∧ Fresh w F F' ∧ Upd F w w' := by
  obtain ⟨v, b, hg, hF⟩ := h
  have FD := hid (fun w' (u : Upd [] w w') => find_any (hg.new u) hs h8 r.node)
  obtain ⟨p, hpp⟩ : ∃ p, p = posOf s.rows r.node := ⟨_, rfl⟩
  have hp : p ≤ s.rows.length := by rw [hpp]; unfold posOf; exact (List.takeWhile_sublist _).length_le
  rw [hr, ← hpp] at FD
  rw [← hpp]
  obtain ⟨nd, tn, sa⟩ := r
  obtain ⟨R, hR⟩ : ∃ R, R = w.heap.size := ⟨_, rfl⟩
  have HG := hid hg
  have HF := hid hF
  have HP := hid hp
  have HR := hid hR
  clear hg hF hs hr hpp hp hR
  show Calls _ _ #[_, .agg #[.int .i64 (nd : Int), .int .i64 (tn : Int), .int .i64 (sa : Int)]] _ _
  go_enter Try.func47, Try.ntmps47
  go_wp2_with fail
  refine (FD.out _ ((Upd.refl [] w).alloc _)).mono ?_
  rintro e w1 ⟨rfl, hu⟩
  have HB1 := hid (hu.blk (K.blk_new w _) (by simp))
  have HU1 := hid ((((Upd.refl [] w).alloc _).trans hu (fun t ht => .inl ht)))
  rw [← HR.out] at HB1
  have HG1 := hid (HG.out.new HU1.out)
  clear hu
  obtain ⟨rg, k, cur, ev, -, l1, l2, -⟩ := own_some HG1.out.rows h0
  obtain ⟨n, hn⟩ : ∃ n, n = s.rows.length := ⟨_, rfl⟩
  rw [← hn] at ev l1 h8 h0
  have HN := hid hn
  subst ev
  clear hn
  have KEEP := hid (show ∀ wz, Upd [] w1 wz → wz.cell? ⟨g, 2, none⟩ = some (.slice (some ⟨rg, 0, none⟩) n k) ∧ wz.cell? ⟨R, 0, none⟩ = some (.int .i64 (nd : Int)) ∧ wz.cell? ⟨R, 1, none⟩ = some (.int .i64 (tn : Int)) ∧ wz.cell? ⟨R, 2, none⟩ = some (.int .i64 (sa : Int)) from fun wz u => by
    have hb := u.blk HB1.out (by simp)
    exact ⟨u.cell HG1.out.cells.2.2.1 (by simp), K.blk_cell hb 0, K.blk_cell hb 1, K.blk_cell hb 2⟩)
  rw [← HR.out]
  go_upto_region 3 with (fail)
  refine J.J_begin (fun wz => wz.cell? ⟨g, 2, none⟩ = some (.slice (some ⟨rg, 0, none⟩) n k) ∧ wz.cell? ⟨R, 0, none⟩ = some (.int .i64 (nd : Int)) ∧ wz.cell? ⟨R, 1, none⟩ = some (.int .i64 (tn : Int)) ∧ wz.cell? ⟨R, 2, none⟩ = some (.int .i64 (sa : Int))) 11 (by kernel_rfl) ⟨by kernel_rfl, by kernel_rfl, by kernel_rfl⟩ (KEEP.out _ ((Upd.refl [] w1).drew)) (fun LAST HS => ?_)
  refine J.J_take (i := 0) (v := ?_) LAST (by rfl) (by decide) (by kernel_rfl) (by kernel_rfl) (by intro _ _ _ h; exact h) HS (Or.inl ⟨by rfl, ?_⟩) ?_
  rotate_left
  · intro w hSw; (try dsimp only at hSw); go_simp; try with_reducible rfl
  try simp only [Act.put, List.setIfInBounds_toArray, List.set_cons_zero, List.set_cons_succ]
  refine J.J_take (i := 1) (v := ?_) LAST (by rfl) (by decide) (by kernel_rfl) (by kernel_rfl) (by intro _ _ _ h; exact h) HS (Or.inl ⟨by rfl, ?_⟩) ?_
  rotate_left
  · intro w hSw; (try dsimp only at hSw); go_simp; try with_reducible rfl
  try simp only [Act.put, List.setIfInBounds_toArray, List.set_cons_zero, List.set_cons_succ]
  refine J.J_take (i := 2) (v := ?_) LAST (by rfl) (by decide) (by kernel_rfl) (by kernel_rfl) (by intro _ _ _ h; exact h) HS (Or.inl ⟨by rfl, ?_⟩) ?_
  rotate_left
  · intro w hSw; (try dsimp only at hSw); go_simp; try with_reducible rfl
  try simp only [Act.put, List.setIfInBounds_toArray, List.set_cons_zero, List.set_cons_succ]
  refine J.J_take (i := 3) (v := ?_) LAST (by rfl) (by decide) (by kernel_rfl) (by kernel_rfl) (by intro _ _ _ h; exact h) HS (Or.inl ⟨by rfl, ?_⟩) ?_
  rotate_left
  · intro w hSw; (try dsimp only at hSw); go_simp; try with_reducible rfl
  try simp only [Act.put, List.setIfInBounds_toArray, List.set_cons_zero, List.set_cons_succ]
  refine J.J_take (i := 4) (v := ?_) LAST (by rfl) (by decide) (by kernel_rfl) (by kernel_rfl) (by intro _ _ _ h; exact h) HS (Or.inl ⟨by rfl, ?_⟩) ?_
  rotate_left
  · intro w hSw; (try dsimp only at hSw); go_simp; try with_reducible rfl
  try simp only [Act.put, List.setIfInBounds_toArray, List.set_cons_zero, List.set_cons_succ]
  refine J.J_take (i := 5) (v := ?_) LAST (by rfl) (by decide) (by kernel_rfl) (by kernel_rfl) (by intro _ _ _ h; exact h) HS (Or.inl ⟨by rfl, ?_⟩) ?_
  rotate_left
  · intro w hSw; (try dsimp only at hSw); go_simp; try with_reducible rfl
  try simp only [Act.put, List.setIfInBounds_toArray, List.set_cons_zero, List.set_cons_succ]
  refine J.J_take (i := 6) (v := ?_) LAST (by rfl) (by decide) (by kernel_rfl) (by kernel_rfl) (by intro _ _ _ h; exact h) HS (Or.inl ⟨by rfl, ?_⟩) ?_
  rotate_left
  · intro w hSw; (try dsimp only at hSw); go_simp; try with_reducible rfl
  try simp only [Act.put, List.setIfInBounds_toArray, List.set_cons_zero, List.set_cons_succ]
  refine J.J_one (i := 7) (by rfl) (by decide) (by kernel_rfl) (fun KK hK => ?_)
  go_simp
  have U2 := hid (HU1.out.trans (((Upd.refl [] w1).alloc (.cells #[.int .i64 (nd : Int), .int .i64 (tn : Int), .int .i64 (sa : Int)] 65)).drew) (fun t ht => by cases ht))
  have HS2 := KEEP.out _ (((Upd.refl [] w1).alloc (.cells #[.int .i64 (nd : Int), .int .i64 (tn : Int), .int .i64 (sa : Int)] 65)).drew)
  refine hK.out _ _ HS2 ?_
  clear hK KK
  try simp only [List.setIfInBounds_toArray]
  refine J.J_one (i := 8) (by rfl) (by decide) (by kernel_rfl) (fun KK hK => ?_)
  go_simp
  have HG2 := hid (HG.out.new U2.out)
  have hrow := HG2.out.rows
  have hb2 := K.blk_new w1 (.cells #[.int .i64 (nd : Int), .int .i64 (tn : Int), .int .i64 (sa : Int)] 65)
  have hlt : rg < w1.heap.size := own_lt HG1.out.rows rg rfl
  have CI := insert_any (w := (w1.alloc (.cells #[.int .i64 (nd : Int), .int .i64 (tn : Int), .int .i64 (sa : Int)] 65)).drew) hrow (by rw [← HN.out]; exact h0) ⟨nd, tn, sa⟩ w1.heap.size hb2 (fun q => by simp [Value.ownBlock] at q; omega) p HP.out (by rw [← HN.out]; exact h8)
  rw [← HN.out] at CI
  refine CI.mono ?_
  rintro e w3 ⟨v3, rfl, ho, hu, hf⟩
  obtain ⟨a3, k3, e3, -⟩ := own_view ho
  subst e3
  have HO := hid ho
  have HU3 := hid hu
  have HF3 := hid hf
  clear ho hu hf CI hrow hb2 hlt
  go_wp2_with fail
  have gn : g ∉ (Value.slice (some ⟨rg, 0, none⟩) n k).ownBlock.toList := fun hg => HG2.out.vg (by simpa using hg)
  have rlt : rg < w.heap.size := own_lt HG.out.rows rg rfl
  have Rn : R ∉ (Value.slice (some ⟨rg, 0, none⟩) n k).ownBlock.toList := fun hg => by
    have := HR.out
    simp [Value.ownBlock] at hg
    omega
  have bn : b ∉ (Value.slice (some ⟨rg, 0, none⟩) n k).ownBlock.toList := fun hg => HG2.out.vb (by simpa using hg)
  have b3 := hid (HU3.out.blk HG2.out.blk gn)
  have r3 := hid (HU3.out.blk (K.blk_alloc (w := w1) HB1.out _) Rn)
  have m3 := hid (HG2.out.map.upd HU3.out bn)
  have HS3 : w3.cell? ⟨g, 2, none⟩ = some (.slice (some ⟨rg, 0, none⟩) n k) ∧ w3.cell? ⟨R, 0, none⟩ = some (.int .i64 (nd : Int)) ∧ w3.cell? ⟨R, 1, none⟩ = some (.int .i64 (tn : Int)) ∧ w3.cell? ⟨R, 2, none⟩ = some (.int .i64 (sa : Int)) := ⟨K.blk_cell b3.out 2, K.blk_cell r3.out 0, K.blk_cell r3.out 1, K.blk_cell r3.out 2⟩
  refine hK.out _ _ HS3 ?_
  clear hK KK HS2 HS
  try simp only [List.setIfInBounds_toArray]
  refine J.J_take (i := 9) (v := ?_) LAST (by rfl) (by decide) (by kernel_rfl) (by kernel_rfl) (by intro _ _ _ h; exact h) HS3 (Or.inl ⟨by rfl, ?_⟩) ?_
  rotate_left
  · intro w hSw; (try dsimp only at hSw); go_simp; try with_reducible rfl
  try simp only [Act.put, List.setIfInBounds_toArray, List.set_cons_zero, List.set_cons_succ]
  refine J.J_take (i := 10) (v := ?_) LAST (by rfl) (by decide) (by kernel_rfl) (by kernel_rfl) (by intro _ _ _ h; exact h) HS3 (Or.inl ⟨by rfl, ?_⟩) ?_
  rotate_left
  · intro w hSw; (try dsimp only at hSw); go_simp; try with_reducible rfl
  try simp only [Act.put, List.setIfInBounds_toArray, List.set_cons_zero, List.set_cons_succ]
  refine J.J_last (by rfl) (by kernel_rfl) (by kernel_rfl) ?_
  have cz := HS3.1
  have fz := K.blk_frozen b3.out 2
  go_simp
  go_upto_region 4 with (fail)
  obtain ⟨w4, hw4⟩ : ∃ w4, w4 = w3.setCell ⟨g, 2, none⟩ (.slice a3 (n + 1) k3) := ⟨_, rfl⟩
  have us : Upd [g] w3 w4 := by rw [hw4]; exact (Upd.refl _ w3).setCell (.inl (by simp)) _
  have gv3 : ∀ x, (Value.slice a3 (n + 1) k3).ownBlock = some x → x ≠ g := own_cells_ne HO.out b3.out (by decide)
  have bg : b ≠ g := HG2.out.bg
  have H4 := hid (show IsG0 w4 g { s with rows := insAt s.rows p ⟨nd, tn, sa⟩ } (.slice a3 (n + 1) k3) b from
    ⟨by rw [hw4]; exact (K.blk_set b3.out 2 _).trans rfl, by
      show World.ownsRow _ 0 65 3 _ (insAt s.rows p ⟨nd, tn, sa⟩).length _
      rw [insAt_len _ _ _ HP.out, ← HN.out]
      exact own_upd HO.out us (fun x hx hs => gv3 x hx (by simpa using hs)), m3.out.upd us (by simpa using bg)⟩)
  have Rg : R ∉ [g] := fun q => by
    have q1 := r3.out
    have q2 := b3.out
    simp at q
    rw [q, q2] at q1
    simp only [Option.some.injEq, Obj.cells.injEq] at q1
    exact absurd q1.2.1 (by decide)
  have r4 := hid (us.blk r3.out Rg)
  have HU4 := hid ((((U2.out.mono (T := F) (fun x hx => by cases hx)).trans HU3.out (fun x hx => .inl (by rw [HF.out]; simp [Value.ownBlock] at hx; subst hx; exact mem_foot.2 (.inr (.inr (by rw [HN.out]; rfl)))))).trans us (fun x hx => .inl (by rw [HF.out]; simp at hx; subst hx; exact mem_foot.2 (.inl rfl)))))
  rw [← hw4]
  have KEEP4 := hid (show ∀ wz, Upd [] w4 wz → wz.cell? ⟨g, 3, none⟩ = some (.map (some b)) ∧ wz.cell? ⟨R, 0, none⟩ = some (.int .i64 (nd : Int)) from fun wz u => ⟨u.cell H4.out.cells.2.2.2.1 (by simp), K.blk_cell (u.blk r4.out (by simp)) 0⟩)
  have FR := hid (show Fresh w F (foot g (.slice a3 (n + 1) k3) b) from fun x hx => by
    rw [HF.out]
    rcases mem_foot.1 hx with rfl | rfl | hx
    · exact .inl (mem_foot.2 (.inl rfl))
    · exact .inl (mem_foot.2 (.inr (.inl rfl)))
    · rcases HF3.out x hx with q | q
      · exact .inl (mem_foot.2 (.inr (.inr (by rw [← q, HN.out]))))
      · right
        exact Nat.le_trans U2.out.size q)
  obtain ⟨m, hm, hnd, hf⟩ := H4.out.map
  have HM := hid hm
  have HND := hid hnd
  have HFF := hid hf
  clear hm hnd hf hw4 us gv3 bg Rg cz fz gn rlt Rn bn HS3 LAST
  refine J.J_begin (fun wz => wz.cell? ⟨g, 3, none⟩ = some (.map (some b)) ∧ wz.cell? ⟨R, 0, none⟩ = some (.int .i64 (nd : Int))) 6 (by kernel_rfl) ⟨by kernel_rfl, by kernel_rfl, by kernel_rfl⟩ (KEEP4.out _ ((Upd.refl [] w4).drew)) (fun LAST HS => ?_)
  refine J.J_take (i := 0) (v := ?_) LAST (by rfl) (by decide) (by kernel_rfl) (by kernel_rfl) (by intro _ _ _ h; exact h) HS (Or.inl ⟨by rfl, ?_⟩) ?_
  rotate_left
  · intro w hSw; (try dsimp only at hSw); go_simp; try with_reducible rfl
  try simp only [Act.put, List.setIfInBounds_toArray, List.set_cons_zero, List.set_cons_succ]
  refine J.J_take (i := 1) (v := ?_) LAST (by rfl) (by decide) (by kernel_rfl) (by kernel_rfl) (by intro _ _ _ h; exact h) HS (Or.inl ⟨by rfl, ?_⟩) ?_
  rotate_left
  · intro w hSw; (try dsimp only at hSw); go_simp; try with_reducible rfl
  try simp only [Act.put, List.setIfInBounds_toArray, List.set_cons_zero, List.set_cons_succ]
  refine J.J_take (i := 2) (v := ?_) LAST (by rfl) (by decide) (by kernel_rfl) (by kernel_rfl) (by intro _ _ _ h; exact h) HS (Or.inl ⟨by rfl, ?_⟩) ?_
  rotate_left
  · intro w hSw; (try dsimp only at hSw); go_simp; try with_reducible rfl
  try simp only [Act.put, List.setIfInBounds_toArray, List.set_cons_zero, List.set_cons_succ]
  refine J.J_take (i := 3) (v := ?_) LAST (by rfl) (by decide) (by kernel_rfl) (by kernel_rfl) (by intro _ _ _ h; exact h) HS (Or.inl ⟨by rfl, ?_⟩) ?_
  rotate_left
  · intro w hSw; (try dsimp only at hSw); go_simp; try with_reducible rfl
  try simp only [Act.put, List.setIfInBounds_toArray, List.set_cons_zero, List.set_cons_succ]
  refine J.J_take (i := 4) (v := ?_) LAST (by rfl) (by decide) (by kernel_rfl) (by kernel_rfl) (by intro _ _ _ h; exact h) HS (Or.inl ⟨by rfl, ?_⟩) ?_
  rotate_left
  · intro w hSw; (try dsimp only at hSw); go_simp; try with_reducible rfl
  try simp only [Act.put, List.setIfInBounds_toArray, List.set_cons_zero, List.set_cons_succ]
  refine J.J_take (i := 5) (v := ?_) LAST (by rfl) (by decide) (by kernel_rfl) (by kernel_rfl) (by intro _ _ _ h; exact h) HS (Or.inl ⟨by rfl, ?_⟩) ?_
  rotate_left
  · intro w hSw; (try dsimp only at hSw); go_simp; try with_reducible rfl
  try simp only [Act.put, List.setIfInBounds_toArray, List.set_cons_zero, List.set_cons_succ]
  refine J.J_last (by rfl) (by kernel_rfl) (by kernel_rfl) ?_
  refine step_del rfl (.tmp 30) (.tmp 32) 84 3 rfl 3 Try.underlying84 Try.underlying3 b m (by rfl) (HM.out.upd ((Upd.refl [] w4).drew) (by simp)) (nd : Int) (by rfl) ?_
  intro w5 hm5 hu5
  have HU5 := hid (((Upd.refl [b] w4).drew).trans hu5 (fun t ht => .inl ht))
  have hb5 := HasMap.of_del HND.out HFF.out hm5
  have H5 := hid (H4.out.map_set HU5.out hb5)
  clear hm5 hu5 hb5
  go_simp
  go_wp2_with fail
  refine bodyPost_ret (results_none rfl _ _ _) rfl ?_
  exact ⟨rfl, _, ⟨_, b, H5.out, rfl⟩, FR.out, HU4.out.trans HU5.out (fun x hx => .inl (by rw [HF.out]; simp at hx; subst hx; exact mem_foot.2 (.inr (.inl rfl))))⟩
end Go.Proofs.Ytgkjkgooonicbaa.Gs
