/- The order of states; slices.SortFunc at rows of states; explore.sorted. -/
import Derived.Test.YtklacfdbpmkiiaaYf
import Derived.Test.YtklacfdbpmkiiaaMR
namespace Go.Proofs.Ytklacfdbpmkiiaa.Y
open Go Go.RowKit Go.Sort Go.Proofs.Ytklacfdbpmkiiaa Go.Proofs.Ytklacfdbpmkiiaa.K Go.Proofs.Ytklacfdbpmkiiaa.M Go.Proofs.Ytklacfdbpmkiiaa.O Go.Proofs.Ytklacfdbpmkiiaa.R Go.Proofs.Ytklacfdbpmkiiaa.A Go.Proofs.Ytklacfdbpmkiiaa.MS Go.Proofs.Ytklacfdbpmkiiaa.MR
open Go.Proofs.Ytklacfdbpmkiiaa.X (D St Ps noD act wr dep may newC newH stp)

def cfS (s t : St) : Int := cmpL (nl s) (nl t)
theorem nl_len (s : St) : (nl s).length = 12 := rfl
theorem swoS : SWO (ltOf cfS) where
  irrefl x := by unfold ltOf cfS; rw [cmpL_self]; rfl
  trans x y z h1 h2 := by
    unfold ltOf cfS at *
    simp only [decide_eq_true_eq] at *
    exact cmpL_trans (nl x) (nl y) (nl z) rfl rfl h1 h2
  ntrans x y z h1 h2 := by
    unfold ltOf cfS at *
    simp only [decide_eq_false_iff_not, Int.not_lt] at *
    exact cmpL_ntrans (nl x) (nl y) (nl z) rfl rfl h1 h2
theorem nl_map (s : St) : (List.range 12).map (fun k => (nl s).getD k 0) = nl s := rfl
/-- The first part: both rows of numbers. -/
def Two (W wx : World) (f g : Nat → Nat) (v5 v6 : Value) : Prop := ∃ g1 c1 g2 c2, v5 = .slice (some ⟨g1, 0, none⟩) 12 c1 ∧ v6 = .slice (some ⟨g2, 0, none⟩) 12 c2 ∧ (∀ k, k < 12 → wx.cell? ⟨g1, k, none⟩ = some (nv (f k))) ∧ (∀ k, k < 12 → wx.cell? ⟨g2, k, none⟩ = some (nv (g k))) ∧ Gro W wx
/-- The numbers of a state, put together. -/
theorem conc {W0 : World} {r0 : Nat} {l : List Nat} {cs : Array Value} (hb : W0.heap[r0]? = some (.cells cs 35 (0, 0))) (hc : cs = (l.map nv).toArray) (hl : l.length = 12 := by rfl) :
    ∀ wz r, Gro W0 wz → wz.heap[r]? = some (.cells #[.slice (some ⟨r0, 0, none⟩) 4 4, .slice (some ⟨r0, 4, none⟩) 4 4, .slice (some ⟨r0, 8, none⟩) 4 4] 22 (0, 0)) →
      Calls Try.prog 44 #[.slice (some ⟨r, 0, none⟩) 3 3] wz fun e w' => ∃ g q, e = .returned (.slice (some ⟨g, 0, none⟩) 12 q) ∧ (∀ k, k < 12 → w'.cell? ⟨g, k, none⟩ = some (nv (l.getD k 0))) ∧ Gro wz w' := fun wz r hg hr => by
  refine (concat3 r (fun i => ⟨r0, 4 * i, none⟩) (fun k => l.getD k 0) wz ⟨_, hr, by simp, fun z hz => ?_⟩ (fun i hi j hj => ?_)).mono ?_
  · rcases (show z = 0 ∨ z = 1 ∨ z = 2 by omega) with rfl | rfl | rfl <;> rfl
  · have e : (⟨r0, 4 * i, none⟩ : Addr).add j = ⟨r0, 4 * i + j, none⟩ := by unfold Addr.add; split <;> simp_all
    rw [e, K.blk_cell (hg.upd.blk hb (by simp)), hc]
    have hk : 4 * i + j < l.length := by omega
    simp [List.getD_eq_getElem?_getD, hk]
  · rintro e w' ⟨v', rfl, ho, hg'⟩
    rcases ho.2 with ⟨-, h0⟩ | ⟨g, cap, cur, rfl, -, hb', -, -, -, h4⟩
    · omega
    · refine ⟨g, cap, rfl, fun k hk => ?_, hg'⟩
      rw [K.blk_cell hb']
      have : (cur.toList.take (12 * 1))[k]? = some (nv (l.getD k 0)) := by
        rw [h4, List.getElem?_map, List.getElem?_range hk]; rfl
      rw [List.getElem?_take, if_pos (by omega)] at this
      simpa using this
set_option maxHeartbeats 8000000 in
set_option maxRecDepth 100000 in
theorem closure43 (s t : St) (W : World) : Calls Try.prog 43 #[.agg (stl s).toArray, .agg (stl t).toArray] W fun e w' => e = .returned (.int .i64 (cfS s t)) ∧ Gro W w' := by
  obtain ⟨x0, x1, x2, x3, x4, x5, x6, x7, x8, x9, x10, x11, hs⟩ := st_open s
  obtain ⟨y0, y1, y2, y3, y4, y5, y6, y7, y8, y9, y10, y11, ht⟩ := st_open t
  have HS := hid hs
  have HT := hid ht
  rw [hs, ht]
  clear hs ht
  go_enter Try.func43, Try.ntmps43
  go_upto_region 1 with (fail)
  obtain ⟨E, hE⟩ : ∃ E, E = W.heap.size := ⟨_, rfl⟩
  obtain ⟨W0, hW0⟩ : ∃ W0, W0 = (W.alloc (.cells #[.int .i64 (x0 : Int), .int .i64 (x1 : Int), .int .i64 (x2 : Int), .int .i64 (x3 : Int), .int .i64 (x4 : Int), .int .i64 (x5 : Int), .int .i64 (x6 : Int), .int .i64 (x7 : Int), .int .i64 (x8 : Int), .int .i64 (x9 : Int), .int .i64 (x10 : Int), .int .i64 (x11 : Int)] 35)).alloc (.cells #[.int .i64 (y0 : Int), .int .i64 (y1 : Int), .int .i64 (y2 : Int), .int .i64 (y3 : Int), .int .i64 (y4 : Int), .int .i64 (y5 : Int), .int .i64 (y6 : Int), .int .i64 (y7 : Int), .int .i64 (y8 : Int), .int .i64 (y9 : Int), .int .i64 (y10 : Int), .int .i64 (y11 : Int)] 35) := ⟨_, rfl⟩
  have b1 : W0.heap[E]? = some (.cells #[.int .i64 (x0 : Int), .int .i64 (x1 : Int), .int .i64 (x2 : Int), .int .i64 (x3 : Int), .int .i64 (x4 : Int), .int .i64 (x5 : Int), .int .i64 (x6 : Int), .int .i64 (x7 : Int), .int .i64 (x8 : Int), .int .i64 (x9 : Int), .int .i64 (x10 : Int), .int .i64 (x11 : Int)] 35 (0, 0)) := by rw [hW0, hE]; exact K.blk_alloc (K.blk_new W _) _
  have b2 : W0.heap[E + 1]? = some (.cells #[.int .i64 (y0 : Int), .int .i64 (y1 : Int), .int .i64 (y2 : Int), .int .i64 (y3 : Int), .int .i64 (y4 : Int), .int .i64 (y5 : Int), .int .i64 (y6 : Int), .int .i64 (y7 : Int), .int .i64 (y8 : Int), .int .i64 (y9 : Int), .int .i64 (y10 : Int), .int .i64 (y11 : Int)] 35 (0, 0)) := by rw [hW0, hE]; exact blk_new2 W _ _
  have G0 := hid (show Gro W W0 by rw [hW0]; exact ((Gro.refl W).alloc _).alloc _)
  have hE1 : W.heap.size + 1 = E + 1 := by rw [hE]
  have CS := hid (conc (r0 := E) (l := nl s) (W0 := W0) (cs := #[.int .i64 (x0 : Int), .int .i64 (x1 : Int), .int .i64 (x2 : Int), .int .i64 (x3 : Int), .int .i64 (x4 : Int), .int .i64 (x5 : Int), .int .i64 (x6 : Int), .int .i64 (x7 : Int), .int .i64 (x8 : Int), .int .i64 (x9 : Int), .int .i64 (x10 : Int), .int .i64 (x11 : Int)]) b1 (by rw [← HS.out]; rfl))
  have CT := hid (conc (r0 := E + 1) (l := nl t) (W0 := W0) (cs := #[.int .i64 (y0 : Int), .int .i64 (y1 : Int), .int .i64 (y2 : Int), .int .i64 (y3 : Int), .int .i64 (y4 : Int), .int .i64 (y5 : Int), .int .i64 (y6 : Int), .int .i64 (y7 : Int), .int .i64 (y8 : Int), .int .i64 (y9 : Int), .int .i64 (y10 : Int), .int .i64 (y11 : Int)]) b2 (by rw [← HT.out]; rfl))
  rw [← hW0]
  rw [hE1]
  rw [← hE]
  clear hW0 hE1 hE b1 b2
  go_cut [5, 6] from 7 to 22 (fun v5 v6 wx => Two W0 wx (fun k => (nl s).getD k 0) (fun k => (nl t).getD k 0) v5 v6)
  case first =>
    refine J.J_begin (fun wz => Gro W0 wz) 17 (by kernel_rfl) ⟨by kernel_rfl, by kernel_rfl, by kernel_rfl⟩ ((Gro.refl W0).drew) (fun LAST HS0 => ?_)
    have HS := HS0
    refine J.J_take (i := 0) (v := ?_) LAST (by rfl) (by decide) (by kernel_rfl) (by kernel_rfl) (by intro _ _ _ h; exact h) HS (Or.inl ⟨by rfl, ?_⟩) ?_
    rotate_left
    · intro w hSw; (try dsimp only at hSw); go_simp; try with_reducible rfl
    try simp only [Act.put, List.setIfInBounds_toArray, List.set_cons_zero, List.set_cons_succ]
    refine J.J_take (i := 1) (v := ?_) LAST (by rfl) (by decide) (by kernel_rfl) (by kernel_rfl) (by intro _ _ _ h; exact h) HS (Or.inl ⟨by rfl, ?_⟩) ?_
    rotate_left
    · intro w hSw; (try dsimp only at hSw); go_simp; try with_reducible rfl
    try simp only [Act.put, List.setIfInBounds_toArray, List.set_cons_zero, List.set_cons_succ]
    refine J.J_take (i := 2) (v := ?_) LAST (by rfl) (by decide) (by kernel_rfl) (by kernel_rfl) (by intro _ _ _ h; exact h) HS (Or.inl ⟨by rfl, ?_⟩) ?_
    rotate_left
    · intro w hSw; (try dsimp only at hSw); go_simp; try with_reducible rfl
    try simp only [Act.put, List.setIfInBounds_toArray, List.set_cons_zero, List.set_cons_succ]
    refine J.J_take (i := 3) (v := ?_) LAST (by rfl) (by decide) (by kernel_rfl) (by kernel_rfl) (by intro _ _ _ h; exact h) HS (Or.inl ⟨by rfl, ?_⟩) ?_
    rotate_left
    · intro w hSw; (try dsimp only at hSw); go_simp; try with_reducible rfl
    try simp only [Act.put, List.setIfInBounds_toArray, List.set_cons_zero, List.set_cons_succ]
    refine J.J_take (i := 4) (v := ?_) LAST (by rfl) (by decide) (by kernel_rfl) (by kernel_rfl) (by intro _ _ _ h; exact h) HS (Or.inl ⟨by rfl, ?_⟩) ?_
    rotate_left
    · intro w hSw; (try dsimp only at hSw); go_simp; try with_reducible rfl
    try simp only [Act.put, List.setIfInBounds_toArray, List.set_cons_zero, List.set_cons_succ]
    refine J.J_take (i := 5) (v := ?_) LAST (by rfl) (by decide) (by kernel_rfl) (by kernel_rfl) (by intro _ _ _ h; exact h) HS (Or.inl ⟨by rfl, ?_⟩) ?_
    rotate_left
    · intro w hSw; (try dsimp only at hSw); go_simp; try with_reducible rfl
    try simp only [Act.put, List.setIfInBounds_toArray, List.set_cons_zero, List.set_cons_succ]
    refine J.J_take (i := 8) (v := ?_) LAST (by rfl) (by decide) (by kernel_rfl) (by kernel_rfl) (by intro _ _ _ h; exact h) HS (Or.inl ⟨by rfl, ?_⟩) ?_
    rotate_left
    · intro w hSw; (try dsimp only at hSw); go_simp; try with_reducible rfl
    try simp only [Act.put, List.setIfInBounds_toArray, List.set_cons_zero, List.set_cons_succ]
    refine J.J_take (i := 9) (v := ?_) LAST (by rfl) (by decide) (by kernel_rfl) (by kernel_rfl) (by intro _ _ _ h; exact h) HS (Or.inl ⟨by rfl, ?_⟩) ?_
    rotate_left
    · intro w hSw; (try dsimp only at hSw); go_simp; try with_reducible rfl
    try simp only [Act.put, List.setIfInBounds_toArray, List.set_cons_zero, List.set_cons_succ]
    refine J.J_take (i := 10) (v := ?_) LAST (by rfl) (by decide) (by kernel_rfl) (by kernel_rfl) (by intro _ _ _ h; exact h) HS (Or.inl ⟨by rfl, ?_⟩) ?_
    rotate_left
    · intro w hSw; (try dsimp only at hSw); go_simp; try with_reducible rfl
    try simp only [Act.put, List.setIfInBounds_toArray, List.set_cons_zero, List.set_cons_succ]
    refine J.J_take (i := 11) (v := ?_) LAST (by rfl) (by decide) (by kernel_rfl) (by kernel_rfl) (by intro _ _ _ h; exact h) HS (Or.inl ⟨by rfl, ?_⟩) ?_
    rotate_left
    · intro w hSw; (try dsimp only at hSw); go_simp; try with_reducible rfl
    try simp only [Act.put, List.setIfInBounds_toArray, List.set_cons_zero, List.set_cons_succ]
    refine J.J_take (i := 12) (v := ?_) LAST (by rfl) (by decide) (by kernel_rfl) (by kernel_rfl) (by intro _ _ _ h; exact h) HS (Or.inl ⟨by rfl, ?_⟩) ?_
    rotate_left
    · intro w hSw; (try dsimp only at hSw); go_simp; try with_reducible rfl
    try simp only [Act.put, List.setIfInBounds_toArray, List.set_cons_zero, List.set_cons_succ]
    refine J.J_take (i := 13) (v := ?_) LAST (by rfl) (by decide) (by kernel_rfl) (by kernel_rfl) (by intro _ _ _ h; exact h) HS (Or.inl ⟨by rfl, ?_⟩) ?_
    rotate_left
    · intro w hSw; (try dsimp only at hSw); go_simp; try with_reducible rfl
    try simp only [Act.put, List.setIfInBounds_toArray, List.set_cons_zero, List.set_cons_succ]
    clear HS
    refine J.J_two (i := 6) (j := 14) (by rfl) (by rfl) (by decide) (by decide) (by kernel_rfl) (fun KK hK => ?_) (fun KK hK => ?_)
    · go_simp
      refine hK.out _ _ (((Gro.refl W0).alloc _).drew) ?_
      clear hK KK
      try simp only [List.setIfInBounds_toArray]
      obtain ⟨w1, hw1⟩ : ∃ w, w = (W0.alloc (.cells #[.slice (some ⟨E, 0, none⟩) 4 4, .slice (some ⟨E, 4, none⟩) 4 4, .slice (some ⟨E, 8, none⟩) 4 4] 22)).drew := ⟨_, rfl⟩
      have G1 := hid (show Gro W0 w1 by rw [hw1]; exact (((Gro.refl W0).alloc _).drew))
      have k1 := hid (show w1.heap[W0.heap.size]? = some (.cells #[.slice (some ⟨E, 0, none⟩) 4 4, .slice (some ⟨E, 4, none⟩) 4 4, .slice (some ⟨E, 8, none⟩) 4 4] 22 (0, 0)) by rw [hw1]; exact K.blk_new _ _)
      rw [← hw1]
      clear hw1
      refine J.J_two (i := 7) (j := 14) (by rfl) (by rfl) (by decide) (by decide) (by kernel_rfl) (fun KK hK => ?_) (fun KK hK => ?_)
      · go_simp
        refine (CS.out _ _ G1.out k1.out).mono ?_
        rintro e w2 ⟨gc1, qc1, rfl, hcc1, hgc1⟩
        have G2 := hid (G1.out.trans hgc1)
        have Kc1 := hid hcc1
        clear hcc1 hgc1
        go_simp
        refine hK.out _ _ G2.out ?_
        clear hK KK
        try simp only [List.setIfInBounds_toArray]
        refine J.J_one (i := 14) (by rfl) (by decide) (by kernel_rfl) (fun KK hK => ?_)
        go_simp
        refine hK.out _ _ (G2.out.alloc _) ?_
        clear hK KK
        try simp only [List.setIfInBounds_toArray]
        obtain ⟨w3, hw3⟩ : ∃ w, w = w2.alloc (.cells #[.slice (some ⟨E + 1, 0, none⟩) 4 4, .slice (some ⟨E + 1, 4, none⟩) 4 4, .slice (some ⟨E + 1, 8, none⟩) 4 4] 22) := ⟨_, rfl⟩
        have G3 := hid (show Gro W0 w3 by rw [hw3]; exact G2.out.alloc _)
        have k3 := hid (show w3.heap[w2.heap.size]? = some (.cells #[.slice (some ⟨E + 1, 0, none⟩) 4 4, .slice (some ⟨E + 1, 4, none⟩) 4 4, .slice (some ⟨E + 1, 8, none⟩) 4 4] 22 (0, 0)) by rw [hw3]; exact K.blk_new _ _)
        have Kc1a := hid (show ∀ k, k < 12 → w3.cell? ⟨gc1, k, none⟩ = some (nv ((nl s).getD k 0)) from fun k hk => by rw [hw3]; exact ((Upd.refl [] _).alloc _).cell (Kc1.out k hk) (by simp))
        rw [← hw3]
        clear hw3
        refine J.J_one (i := 15) (by rfl) (by decide) (by kernel_rfl) (fun KK hK => ?_)
        go_simp
        refine (CT.out _ _ G3.out k3.out).mono ?_
        rintro e w4 ⟨gc2, qc2, rfl, hcc2, hgc2⟩
        have G4 := hid (G3.out.trans hgc2)
        have Kc2 := hid hcc2
        have Kc1b := hid (fun k (hk : k < 12) => hgc2.upd.cell (Kc1a.out k hk) (by simp))
        clear hcc2 hgc2
        go_simp
        refine hK.out _ _ G4.out ?_
        clear hK KK
        try simp only [List.setIfInBounds_toArray]
        have HS := G4.out
        refine J.J_take (i := 16) (v := ?_) LAST (by rfl) (by decide) (by kernel_rfl) (by kernel_rfl) (by intro _ _ _ h; exact h) HS (Or.inl ⟨by rfl, ?_⟩) ?_
        rotate_left
        · intro w hSw; (try dsimp only at hSw); go_simp; try with_reducible rfl
        try simp only [Act.put, List.setIfInBounds_toArray, List.set_cons_zero, List.set_cons_succ]
        refine J.J_last (by rfl) (by kernel_rfl) (by kernel_rfl) ?_
        go_simp
        go_wp2_with fail
        go_meet
        exact ⟨gc1, qc1, gc2, qc2, rfl, rfl, Kc1b.out, Kc2.out, G4.out⟩
      · go_simp
        refine hK.out _ _ (G1.out.alloc _) ?_
        clear hK KK
        try simp only [List.setIfInBounds_toArray]
        obtain ⟨w5, hw5⟩ : ∃ w, w = w1.alloc (.cells #[.slice (some ⟨E + 1, 0, none⟩) 4 4, .slice (some ⟨E + 1, 4, none⟩) 4 4, .slice (some ⟨E + 1, 8, none⟩) 4 4] 22) := ⟨_, rfl⟩
        have G5 := hid (show Gro W0 w5 by rw [hw5]; exact G1.out.alloc _)
        have k5 := hid (show w5.heap[w1.heap.size]? = some (.cells #[.slice (some ⟨E + 1, 0, none⟩) 4 4, .slice (some ⟨E + 1, 4, none⟩) 4 4, .slice (some ⟨E + 1, 8, none⟩) 4 4] 22 (0, 0)) by rw [hw5]; exact K.blk_new _ _)
        have kb15 := hid (show w5.heap[W0.heap.size]? = some (.cells #[.slice (some ⟨E, 0, none⟩) 4 4, .slice (some ⟨E, 4, none⟩) 4 4, .slice (some ⟨E, 8, none⟩) 4 4] 22 (0, 0)) by rw [hw5]; exact K.blk_alloc k1.out _)
        rw [← hw5]
        clear hw5
        refine J.J_one (i := 7) (by rfl) (by decide) (by kernel_rfl) (fun KK hK => ?_)
        go_simp
        refine (CS.out _ _ G5.out kb15.out).mono ?_
        rintro e w6 ⟨gc1, qc1, rfl, hcc1, hgc1⟩
        have G6 := hid (G5.out.trans hgc1)
        have Kc1 := hid hcc1
        have kb26 := hid (hgc1.upd.blk k5.out (by simp))
        clear hcc1 hgc1
        go_simp
        refine hK.out _ _ G6.out ?_
        clear hK KK
        try simp only [List.setIfInBounds_toArray]
        refine J.J_one (i := 15) (by rfl) (by decide) (by kernel_rfl) (fun KK hK => ?_)
        go_simp
        refine (CT.out _ _ G6.out kb26.out).mono ?_
        rintro e w7 ⟨gc2, qc2, rfl, hcc2, hgc2⟩
        have G7 := hid (G6.out.trans hgc2)
        have Kc2 := hid hcc2
        have Kc1b := hid (fun k (hk : k < 12) => hgc2.upd.cell (Kc1.out k hk) (by simp))
        clear hcc2 hgc2
        go_simp
        refine hK.out _ _ G7.out ?_
        clear hK KK
        try simp only [List.setIfInBounds_toArray]
        have HS := G7.out
        refine J.J_take (i := 16) (v := ?_) LAST (by rfl) (by decide) (by kernel_rfl) (by kernel_rfl) (by intro _ _ _ h; exact h) HS (Or.inl ⟨by rfl, ?_⟩) ?_
        rotate_left
        · intro w hSw; (try dsimp only at hSw); go_simp; try with_reducible rfl
        try simp only [Act.put, List.setIfInBounds_toArray, List.set_cons_zero, List.set_cons_succ]
        refine J.J_last (by rfl) (by kernel_rfl) (by kernel_rfl) ?_
        go_simp
        go_wp2_with fail
        go_meet
        exact ⟨gc1, qc1, gc2, qc2, rfl, rfl, Kc1b.out, Kc2.out, G7.out⟩
    · go_simp
      refine hK.out _ _ (((Gro.refl W0).alloc _).drew) ?_
      clear hK KK
      try simp only [List.setIfInBounds_toArray]
      obtain ⟨w8, hw8⟩ : ∃ w, w = (W0.alloc (.cells #[.slice (some ⟨E + 1, 0, none⟩) 4 4, .slice (some ⟨E + 1, 4, none⟩) 4 4, .slice (some ⟨E + 1, 8, none⟩) 4 4] 22)).drew := ⟨_, rfl⟩
      have G8 := hid (show Gro W0 w8 by rw [hw8]; exact (((Gro.refl W0).alloc _).drew))
      have k8 := hid (show w8.heap[W0.heap.size]? = some (.cells #[.slice (some ⟨E + 1, 0, none⟩) 4 4, .slice (some ⟨E + 1, 4, none⟩) 4 4, .slice (some ⟨E + 1, 8, none⟩) 4 4] 22 (0, 0)) by rw [hw8]; exact K.blk_new _ _)
      rw [← hw8]
      clear hw8
      refine J.J_one (i := 6) (by rfl) (by decide) (by kernel_rfl) (fun KK hK => ?_)
      go_simp
      refine hK.out _ _ (G8.out.alloc _) ?_
      clear hK KK
      try simp only [List.setIfInBounds_toArray]
      obtain ⟨w9, hw9⟩ : ∃ w, w = w8.alloc (.cells #[.slice (some ⟨E, 0, none⟩) 4 4, .slice (some ⟨E, 4, none⟩) 4 4, .slice (some ⟨E, 8, none⟩) 4 4] 22) := ⟨_, rfl⟩
      have G9 := hid (show Gro W0 w9 by rw [hw9]; exact G8.out.alloc _)
      have k9 := hid (show w9.heap[w8.heap.size]? = some (.cells #[.slice (some ⟨E, 0, none⟩) 4 4, .slice (some ⟨E, 4, none⟩) 4 4, .slice (some ⟨E, 8, none⟩) 4 4] 22 (0, 0)) by rw [hw9]; exact K.blk_new _ _)
      have kb29 := hid (show w9.heap[W0.heap.size]? = some (.cells #[.slice (some ⟨E + 1, 0, none⟩) 4 4, .slice (some ⟨E + 1, 4, none⟩) 4 4, .slice (some ⟨E + 1, 8, none⟩) 4 4] 22 (0, 0)) by rw [hw9]; exact K.blk_alloc k8.out _)
      rw [← hw9]
      clear hw9
      refine J.J_one (i := 7) (by rfl) (by decide) (by kernel_rfl) (fun KK hK => ?_)
      go_simp
      refine (CS.out _ _ G9.out k9.out).mono ?_
      rintro e w10 ⟨gc1, qc1, rfl, hcc1, hgc1⟩
      have G10 := hid (G9.out.trans hgc1)
      have Kc1 := hid hcc1
      have kb210 := hid (hgc1.upd.blk kb29.out (by simp))
      clear hcc1 hgc1
      go_simp
      refine hK.out _ _ G10.out ?_
      clear hK KK
      try simp only [List.setIfInBounds_toArray]
      refine J.J_one (i := 15) (by rfl) (by decide) (by kernel_rfl) (fun KK hK => ?_)
      go_simp
      refine (CT.out _ _ G10.out kb210.out).mono ?_
      rintro e w11 ⟨gc2, qc2, rfl, hcc2, hgc2⟩
      have G11 := hid (G10.out.trans hgc2)
      have Kc2 := hid hcc2
      have Kc1b := hid (fun k (hk : k < 12) => hgc2.upd.cell (Kc1.out k hk) (by simp))
      clear hcc2 hgc2
      go_simp
      refine hK.out _ _ G11.out ?_
      clear hK KK
      try simp only [List.setIfInBounds_toArray]
      have HS := G11.out
      refine J.J_take (i := 16) (v := ?_) LAST (by rfl) (by decide) (by kernel_rfl) (by kernel_rfl) (by intro _ _ _ h; exact h) HS (Or.inl ⟨by rfl, ?_⟩) ?_
      rotate_left
      · intro w hSw; (try dsimp only at hSw); go_simp; try with_reducible rfl
      try simp only [Act.put, List.setIfInBounds_toArray, List.set_cons_zero, List.set_cons_succ]
      refine J.J_last (by rfl) (by kernel_rfl) (by kernel_rfl) ?_
      go_simp
      go_wp2_with fail
      go_meet
      exact ⟨gc1, qc1, gc2, qc2, rfl, rfl, Kc1b.out, Kc2.out, G11.out⟩
  case rest =>
    obtain ⟨g1, c1, g2, c2, rfl, rfl, h1, h2, hg⟩ := hcut
    have HG := hid (G0.out.trans hg)
    have CMP := compare_any g1 g2 c1 c2 (fun k => (nl s).getD k 0) (fun k => (nl t).getD k 0) wc h1 h2
    rw [nl_map, nl_map] at CMP
    clear h1 h2 hg
    go_wp2_with fail
    refine CMP.mono ?_
    rintro e w5 ⟨rfl, rfl⟩
    go_wp2_with fail
    go_ret
    exact ⟨rfl, HG.out⟩
/-! Rows of states. -/
def scells (L : List St) : List Value := L.flatMap stl
theorem scells_len (L : List St) : (scells L).length = L.length * 12 := by
  unfold scells
  induction L with
  | nil => rfl
  | cons a l ih => simp only [List.flatMap_cons, List.length_append, ih, stl, List.length_cons, List.length_nil]; omega
theorem scells_snoc (L : List St) (s : St) : scells (L ++ [s]) = scells L ++ stl s := by simp [scells]
theorem scells_get : ∀ (L : List St) (j p : Nat) (hj : j < L.length), p < 12 → (scells L)[j * 12 + p]? = (stl L[j])[p]?
  | [], j, p, hj, _ => by simp at hj
  | c :: r, 0, p, _, hp => by
    show (stl c ++ scells r)[0 * 12 + p]? = _
    rw [Nat.zero_mul, Nat.zero_add, List.getElem?_append_left (by show p < 12; exact hp)]; rfl
  | c :: r, j + 1, p, hj, hp => by
    show (stl c ++ scells r)[(j + 1) * 12 + p]? = _
    rw [List.getElem?_append_right (by show 12 ≤ _; omega), show (j + 1) * 12 + p - (stl c).length = j * 12 + p by show _ - 12 = _; omega]
    exact scells_get r j p (by simpa using hj) hp
theorem stl_one (s : St) : ∀ v ∈ stl s, v.oneCell' = true := fun v hv => by
  simp [stl, nv] at hv
  rcases hv with rfl | rfl | rfl | rfl | rfl | rfl | rfl | rfl | rfl | rfl | rfl | rfl <;> rfl
instance : Inhabited St := ⟨⟨[], [], []⟩⟩
theorem flat_scells (L : List St) : (flatK stl 12 L.toArray).toList = scells L := by
  refine List.ext_getElem? (fun t => ?_)
  by_cases ht : t < L.length * 12
  · have h1 : t < (flatK stl 12 L.toArray).size := by simpa using ht
    have h2 : t / 12 < L.length := by omega
    rw [Array.getElem?_toList, Array.getElem?_eq_getElem h1, ← getElem!_pos _ t h1, get_flatK _ _ _ _ (by simpa using ht)]
    have e : L.toArray[t / 12]! = L[t / 12] := by simp [h2]
    rw [e]
    have h3 := scells_get L (t / 12) (t % 12) h2 (by omega)
    rw [show t / 12 * 12 + t % 12 = t by omega] at h3
    rw [h3]
    have h4 : t % 12 < (stl L[t / 12]).length := by show t % 12 < 12; omega
    rw [List.getElem?_eq_getElem h4]
    simp [h4]
  · rw [List.getElem?_eq_none (by simp; omega), List.getElem?_eq_none (by rw [scells_len]; omega)]
theorem heap_putRow (w : World) (g : Nat) (d : Array Value) (k : Nat) (os : Array Obj) (n : Nat) (hk : k < w.heap.size) :
    (Sort.grow (Sort.putRow id (Sort.ahead w n) g 0 d) os).heap[k]? = if k = g then (w.heap[g]?).map (Sort.onCells (Sort.putCells id 0 d)) else w.heap[k]? := by
  unfold Sort.grow Sort.putRow Sort.mapBlock Sort.ahead
  simp only
  rw [Array.getElem?_append_left (by simpa using hk), Array.getElem?_modify]
  by_cases e : g = k
  · subst e; simp
  · simp [e, Ne.symm e]
theorem isAgg35' (w : World) : (isAgg 35).run Try.prog w = .ok true w := Try.isAgg35 w
theorem sort_states {B : Nat} {v : Value} {L : List St} {w : World} (h : w.ownsRow B 35 12 v L.length (scells L)) (h0 : L ≠ []) (hbig : L.length ≤ 1000000000) :
    Calls Try.prog 42 #[v, .func (.func 43) #[] #[]] w fun e w' => e = .returned (.tuple #[]) ∧ (∃ L' : List St, w'.ownsRow B 35 12 v L'.length (scells L') ∧ L'.Perm L) ∧ Upd v.ownBlock.toList w w' := by
  have hp := List.length_pos_iff.2 h0
  rcases h.2 with ⟨rfl, hx⟩ | ⟨g, cap, cur, rfl, hb, hg, h1, h2, h3, h4⟩
  · omega
  · have hgl := K.blk_lt hg
    have hcl := scells_len L
    have hcs : L.length * 12 ≤ cur.size := by
      have := congrArg List.length h4; rw [hcl, List.length_take] at this; simp at this; omega
    have hH : HoldsK stl 12 w g 0 L.toArray := fun j hj => by
      rw [Nat.zero_add]
      refine ⟨?_, K.blk_frozen hg j⟩
      have hj' : j < L.length * 12 := by simpa using hj
      rw [K.blk_cell hg, ← Array.getElem?_toList]
      have e2 : (cur.toList.take (L.length * 12))[j]? = (scells L)[j]? := by rw [h4]
      rw [List.getElem?_take, if_pos hj'] at e2
      rw [e2, ← flat_scells, Array.getElem?_toList, Array.getElem?_eq_getElem hj, getElem!_pos _ j hj]
      rfl
    have eg : ∀ args w, (callFunc 43 args).run Try.prog w = .ok (.enter 43 args) w := enters_of Try.func43 (by kernel_rfl) rfl
    have hcmp : CmpLays Try.prog 43 #[] stl 12 cfS g 0 L.toArray.size w := fun m os dk _ x y => (closure43 x y _).mono fun e w' ⟨h1, h2⟩ => ⟨h1, h2.grow⟩
    have hcon := AnyQ.slices_SortFunc Try.sortSt 12 isAgg35' Try.sizeOf35 stl (fun _ => rfl) (fun x v hv => stl_one x v hv) cfS swoS 43 #[] g 0 cap L.toArray w eg hcmp hH hgl (by simp; omega)
    refine hcon.mono ?_
    rintro e w' ⟨rfl, d', n, os, hpm, -, rfl⟩
    obtain ⟨p1, -, p3⟩ := hpm
    have hsz : d'.size = L.length := by rw [p1]; simp
    obtain ⟨L', rfl⟩ : ∃ L' : List St, d' = L'.toArray := ⟨d'.toList, by simp⟩
    have hl' : L'.length = L.length := by simpa using hsz
    have hblk := heap_putRow w g (flatK stl 12 L'.toArray) g os n hgl
    rw [if_pos rfl, hg] at hblk
    have hperm : L'.Perm L := by
      simp only [List.size_toArray] at p3
      have e1 : (L'.toArray.extract 0 L.length).toList = L' := by simp [← hl']
      have e2 : (L.toArray.extract 0 L.length).toList = L := by simp
      rwa [e1, e2] at p3
    refine ⟨rfl, ⟨L', ⟨by rw [scells_len], .inr ⟨g, cap, Sort.putCells id 0 (flatK stl 12 L'.toArray) cur, by rw [hl'], hb, hblk, by omega, h2, by simpa [Sort.putCells] using h3, ?_⟩⟩, hperm⟩, ⟨rfl, rfl, rfl, ?_, fun k hk hs => ?_⟩⟩
    · apply List.ext_getElem?
      intro z
      by_cases hz : z < L'.length * 12
      · have hzc : z < cur.size := by omega
        rw [List.getElem?_take, if_pos hz, Array.getElem?_toList]
        simp only [Sort.putCells, Array.getElem?_mapIdx, Array.getElem?_eq_getElem hzc, Option.map_some, Nat.zero_add]
        have hzs : z < (flatK stl 12 L'.toArray).size := by simpa using hz
        rw [if_pos ⟨Nat.zero_le _, hzs⟩, ← flat_scells, Array.getElem?_toList, Array.getElem?_eq_getElem hzs, Nat.sub_zero, getElem!_pos _ z hzs]
        rfl
      · rw [List.getElem?_take, if_neg hz, List.getElem?_eq_none (by rw [scells_len]; omega)]
    · unfold sortWorldK putRowK Sort.grow Sort.putRow Sort.mapBlock Sort.ahead
      simp
    · have hkg : k ≠ g := by intro e; apply hs; simp [Value.ownBlock, e]
      have := heap_putRow w g (flatK stl 12 L'.toArray) k os n hk
      rw [if_neg hkg] at this
      exact this
/-- A state out of its value. -/
def vn : Value → Nat
  | .int _ x => x.toNat
  | _ => 0
def dec : Value → St
  | .agg cs => ⟨[vn (cs.getD 0 undef), vn (cs.getD 1 undef), vn (cs.getD 2 undef), vn (cs.getD 3 undef)], [vn (cs.getD 4 undef), vn (cs.getD 5 undef), vn (cs.getD 6 undef), vn (cs.getD 7 undef)], [vn (cs.getD 8 undef), vn (cs.getD 9 undef), vn (cs.getD 10 undef), vn (cs.getD 11 undef)]⟩
  | _ => ⟨[], [], []⟩
theorem dec_stv {s : St} (h : W4 s) : dec (stv s) = s := by
  obtain ⟨c, hh, a⟩ := s
  obtain ⟨h1, h2, h3⟩ := h
  simp only at h1 h2 h3
  match c, h1, hh, h2, a, h3 with
  | [c0, c1, c2, c3], _, [e0, e1, e2, e3], _, [g0, g1, g2, g3], _ => simp [dec, stv, stl, nv, vn]
theorem perm_stv {l m : List St} (hl : ∀ s ∈ l, W4 s) (hm : ∀ s ∈ m, W4 s) (h : (l.map stv).Perm (m.map stv)) : l.Perm m := by
  have := h.map dec
  rw [List.map_map, List.map_map] at this
  have e : ∀ q : List St, (∀ s ∈ q, W4 s) → q.map (dec ∘ stv) = q := fun q hq => by
    conv => rhs; rw [← List.map_id q]
    exact List.map_congr_left (fun s hs => dec_stv (hq s hs))
  rwa [e l hl, e m hm] at this
theorem info35' : (Try.prog.info? 35).map (fun i => (i.zero, i.size, i.bytes)) = some (some (stv X.zeroSt), 12, 96) := by kernel_rfl
set_option maxHeartbeats 8000000 in
set_option maxRecDepth 100000 in
theorem sorted_any (M : Nat) (sts : List St) (w : World) (hm : IsSet Kst w M (sts.map stv)) (h4 : ∀ s ∈ sts, W4 s) (h0 : sts ≠ []) (hbig : sts.length ≤ 1000000000) :
    Calls Try.prog 23 #[.map (some M)] w fun e w' => ∃ v L, e = .returned v ∧ w'.ownsRow w.heap.size 35 12 v L.length (scells L) ∧ L.Perm sts ∧ Upd [] w w' := by
  obtain ⟨i35, hi, hza, hzb, hzc⟩ := info_parts info35'
  have HI := hid hi
  have HA := hid hza
  have HB := hid hzb
  have HC := hid hzc
  have HM := hid hm
  have H4 := hid h4
  obtain ⟨n, hn⟩ : ∃ n, n = sts.length := ⟨_, rfl⟩
  rw [← hn] at hbig
  have HN := hid hn
  obtain ⟨B, hB⟩ : ∃ B, B = w.heap.size := ⟨_, rfl⟩
  rw [← hB]
  have HBS := hid hB
  clear hi hza hzb hzc hm h4 hn hB
  go_enter Try.func23, Try.ntmps23
  go_wp2_with (at_range; refine MR.wpList_range rfl _ rfl Try.underlying60 rfl HM.out ?_; intro w1 hrg hu; have RG := hid (show Rg w1 M B (sts.map stv) (([] : List St).map stv) by rw [HBS.out]; exact hrg); have U1 := hid hu; clear hrg hu)
  rw [← HBS.out]
  go_frame
  go_loopg [3] n (fun d v3 wr => ∃ (Ls : List St), Hid (Ls.length + d = n) ∧ Hid (Rg wr M B (sts.map stv) (Ls.map stv)) ∧ Hid (∀ s ∈ Ls, W4 s) ∧ Hid (wr.ownsRow B 35 12 v3 Ls.length (scells Ls)) ∧ Hid (Upd [] w wr))
  case atStart => exact ⟨[], hid (by simp), RG, hid (by simp), World.ownsRow_nil _ _ _ _, U1⟩
  case round =>
    clear RG U1
    obtain ⟨Ls, Hd, HR, HW4, HO, HU⟩ := hrel
    go_upto_region 4 with (at_next; refine MR.wpList_next rfl _ rfl rfl HR.out ?_ ?_)
    · intro hperm
      have hp := hid (perm_stv HW4.out H4.out hperm)
      have hne : Ls ≠ [] := fun e => h0 (by have := hp.out; rw [e] at this; exact this.symm.eq_nil)
      have SRT := sort_states HO.out hne (by rw [hp.out.length_eq, ← HN.out]; exact hbig)
      have VO := hid (fun t (ht : t ∈ u3.ownBlock.toList) => own_ge HO.out t (by simpa using ht))
      clear hperm
      go_wp2_with fail
      refine SRT.mono ?_
      rintro e w5 ⟨rfl, ⟨L', ho', hp'⟩, hu'⟩
      have HO' := hid ho'
      have HP' := hid (hp'.trans hp.out)
      have HU' := hid (HU.out.trans hu' (fun t ht => .inr (by rw [← HBS.out]; exact VO.out t ht)))
      clear ho' hp' hu' SRT
      go_wp2_with fail
      go_ret
      exact ⟨u3, L', rfl, HO'.out, HP'.out, HU'.out⟩
    · intro k w' hrg' s hs hks hlt hu hen
      subst hks
      have HS4 := hid (H4.out s hs)
      have HR' := hid hrg'
      have HU1 := hid hu
      have HLT := hid hlt
      have HO1 := hid (own_upd HO.out hu (fun q hq hm => by
        have e : q = B := by simpa using hm
        subst e
        obtain ⟨cur, hc⟩ := own_block HO.out q hq
        exact (HR.out.ne_cells hc).2 rfl))
      obtain ⟨x0, x1, x2, x3, x4, x5, x6, x7, x8, x9, x10, x11, hst⟩ := st_open s
      have HST := hid hst
      unfold stv at hen
      rw [hst] at hen
      have hsp : stv s = .agg #[.int .i64 (x0 : Int), .int .i64 (x1 : Int), .int .i64 (x2 : Int), .int .i64 (x3 : Int), .int .i64 (x4 : Int), .int .i64 (x5 : Int), .int .i64 (x6 : Int), .int .i64 (x7 : Int), .int .i64 (x8 : Int), .int .i64 (x9 : Int), .int .i64 (x10 : Int), .int .i64 (x11 : Int)] := by unfold stv; rw [hst]
      rw [hsp]
      have hlen : Ls.length ≤ 1000000000 := by have := HN.out; omega
      clear hrg' hu hst hlt hs hsp
      go_wp2_with (at_builtin; refine wpList_app (W := w'.alloc (.cells #[.int .i64 (x0 : Int), .int .i64 (x1 : Int), .int .i64 (x2 : Int), .int .i64 (x3 : Int), .int .i64 (x4 : Int), .int .i64 (x5 : Int), .int .i64 (x6 : Int), .int .i64 (x7 : Int), .int .i64 (x8 : Int), .int .i64 (x9 : Int), .int .i64 (x10 : Int), .int .i64 (x11 : Int)] 35)) rfl (.tmp 11) (.tmp 13) 29 rfl B 35 i35 _ 12 96 Try.underlying29 HI.out HA.out HB.out HC.out rfl (by decide) u3 Ls.length (scells Ls) rfl (HO1.out |> fun h => own_new h ((Upd.refl [] _).alloc _)) [.int .i64 (x0 : Int), .int .i64 (x1 : Int), .int .i64 (x2 : Int), .int .i64 (x3 : Int), .int .i64 (x4 : Int), .int .i64 (x5 : Int), .int .i64 (x6 : Int), .int .i64 (x7 : Int), .int .i64 (x8 : Int), .int .i64 (x9 : Int), .int .i64 (x10 : Int), .int .i64 (x11 : Int)] 35 (by first | rfl | (rw [World.size_alloc]; rfl)) rfl (by intro uu hu; simp at hu; rcases hu with rfl | rfl | rfl | rfl | rfl | rfl | rfl | rfl | rfl | rfl | rfl | rfl <;> rfl) (by omega) (by omega) (by rw [World.size_alloc]; have h1 := HU.out.size; have h2 := HU1.out.size; have h3 := HBS.out; omega) ?_; intro v7 w7 ho7 hu7 hl7; have HO7 := hid ho7; have HU7 := hid (((Upd.refl u3.ownBlock.toList w').alloc (.cells #[.int .i64 (x0 : Int), .int .i64 (x1 : Int), .int .i64 (x2 : Int), .int .i64 (x3 : Int), .int .i64 (x4 : Int), .int .i64 (x5 : Int), .int .i64 (x6 : Int), .int .i64 (x7 : Int), .int .i64 (x8 : Int), .int .i64 (x9 : Int), .int .i64 (x10 : Int), .int .i64 (x11 : Int)] 35)).trans hu7 (fun t ht => .inl ht)); clear ho7 hu7 hl7)
      go_roundg (n - (Ls.length + 1))
      case measure => have := Hd.out; have := HLT.out; have := HN.out; omega
      case rel =>
        refine ⟨Ls ++ [s], ?_, ?_, ?_, ?_, ?_⟩
        · show _ = _
          have := Hd.out; have := HLT.out; have := HN.out; simp only [List.length_append, List.length_cons, List.length_nil] at *; omega
        · rw [List.map_append]
          exact HR'.out.upd HU7.out (fun hm => (by obtain ⟨cur, hc⟩ := own_block HO1.out M (by simpa using hm); exact (HR'.out.ne_cells hc).1 rfl)) (fun hm => (by obtain ⟨cur, hc⟩ := own_block HO1.out B (by simpa using hm); exact (HR'.out.ne_cells hc).2 rfl))
        · intro q hq
          rcases List.mem_append.1 hq with h | h
          · exact HW4.out q h
          · have : q = s := by simpa using h
            subst this; exact HS4.out
        · rw [List.length_append, scells_snoc, HST.out]; exact HO7.out
        · have h1 := HU.out.trans HU1.out (fun t ht => .inr (by rw [← HBS.out, show t = B by simpa using ht]; exact Nat.le_refl _))
          exact h1.trans HU7.out (fun t ht => .inr (by rw [← HBS.out]; exact own_ge HO1.out t (by simpa using ht)))
end Go.Proofs.Ytklacfdbpmkiiaa.Y
