/- Gossip: Doubt. -/
import Derived.Test.YtgkjkgooonicbaaGm
namespace Go.Proofs.Ytgkjkgooonicbaa.Gs
open Go Go.RowKit Go.Proofs.Ytgkjkgooonicbaa Go.Proofs.Ytgkjkgooonicbaa.K Go.Proofs.Ytgkjkgooonicbaa.M Go.Proofs.Ytgkjkgooonicbaa.O

def sayAt (l : List Row) (p sa : Nat) : List Row := l.set p ⟨(l.getD p noRow).node, (l.getD p noRow).turn, sa⟩
theorem rowCells_say : ∀ (l : List Row) (p sa : Nat), p < l.length → (rowCells l).set (p * 3 + 2) (.int .i64 (sa : Int)) = rowCells (sayAt l p sa)
  | [], p, _, h => by simp at h
  | x :: l, 0, _, _ => by simp [rowCells, rowVals, sayAt]
  | x :: l, p + 1, sa, h => by
    have ih := rowCells_say l p sa (by simpa using h)
    have hl : (rowVals x).length = 3 := rfl
    simp only [rowCells, sayAt, List.flatMap_cons, List.set_cons_succ, List.getD_cons_succ] at ih ⊢
    rw [show (p + 1) * 3 + 2 = (rowVals x).length + (p * 3 + 2) by rw [hl]; omega, List.set_append_right _ _ (by omega), Nat.add_sub_cancel_left, ih]
theorem sayAt_len (l : List Row) (p sa : Nat) : (sayAt l p sa).length = l.length := by simp [sayAt]
section
variable {w w' : World} {g b : Nat} {s : G} {v : Value}
theorem IsG0.map_set (h : IsG0 w g s v b) (u : Upd [b] w w') {f : Nat → Nat} (hf : HasMap w' b f) : IsG0 w' g { s with since := f } v b :=
  ⟨u.blk h.blk (by simp; exact fun q => h.bg q.symm), own_upd h.rows u (fun k hk hs => by simp at hs; subst hs; exact h.vb hk), hf⟩
theorem IsG0.say_set {r n k : Nat} (h : IsG0 w g s (.slice (some ⟨r, 0, none⟩) n k) b) (hn : n = s.rows.length) {p : Nat} (hp : p < s.rows.length) (sa : Nat) :
    IsG0 (w.setCell ⟨r, p * 3 + 2, none⟩ (.int .i64 (sa : Int))) g { s with rows := sayAt s.rows p sa } (.slice (some ⟨r, 0, none⟩) n k) b := by
  have us : Upd [r] w (w.setCell ⟨r, p * 3 + 2, none⟩ (.int .i64 (sa : Int))) := (Upd.refl _ w).setCell (.inl (by simp)) _
  have hg : g ≠ r := fun q => h.vg (by rw [q]; rfl)
  have hb : b ≠ r := fun q => h.vb (by rw [q]; rfl)
  subst hn
  refine ⟨us.blk h.blk (by simpa using hg), ?_, h.map.upd us (by simpa using hb)⟩
  have := row_set h.rows (i := p * 3 + 2) (by rw [rowCells_len]; omega) (.int .i64 (sa : Int))
  rw [rowCells_say _ _ _ hp] at this
  show World.ownsRow _ 0 65 3 _ (sayAt s.rows p sa).length _
  rw [sayAt_len]
  exact this
end

set_option maxHeartbeats 2000000 in
set_option maxRecDepth 100000 in
theorem doubt_yes {w : World} {F : List Nat} {g : Nat} {s : G} (h : IsG w F g s) (hs : Sorted s.rows) (h8 : s.rows.length ≤ 100) (t : Nat) (ht : hasRow s.rows t = true) (hme : t ≠ s.me) (hsay : (s.rows.getD (posOf s.rows t) noRow).says = 1) :
    Calls Try.prog 32 #[.pointer (some ⟨g, 0, none⟩), .int .i64 (t : Int)] w fun e w' => e = .returned (.int .i64 0) ∧ IsG w' F g { s with rows := sayAt s.rows (posOf s.rows t) 2, since := at1 s.since t 0 } ∧ Upd F w w' := by
  obtain ⟨v, b, h0, hF⟩ := h
  have FD := find_any h0 hs h8 t
  rw [ht] at FD
  have hp : posOf s.rows t < s.rows.length := by
    unfold hasRow at ht
    exact (of_decide_eq_true ht).1
  obtain ⟨p, hpp⟩ : ∃ p, p = posOf s.rows t := ⟨_, rfl⟩
  rw [← hpp] at FD hp hsay ⊢
  obtain ⟨r, k, e, c0, c1, c2, cf, l1, l2⟩ := h0.row hp
  subst e
  obtain ⟨n, hn⟩ : ∃ n, n = s.rows.length := ⟨_, rfl⟩
  rw [hsay] at c2
  have HP := hid hp
  have CS := hid h0.cells
  rw [← hn] at hp l1
  have hp' : (p : Int) < (n : Int) := by omega
  have hme' : ((t : Int) == (s.me : Int)) = false := by rw [beq_eq_false_iff_ne]; omega
  obtain ⟨m, hm, hnd, hf⟩ := h0.map
  have C2 := hid c2
  have FF := hid FD
  have H0 := hid h0
  have HF := hid hF
  have HN := hid hn
  have HM := hid hm
  have HND := hid hnd
  have HFF := hid hf
  have CF := hid cf
  clear h0 hs ht hpp hsay FD c0 c1 c2 hn hF hm hnd hf cf hme h8
  go_enter Try.func32, Try.ntmps32
  go_wp2_with fail
  refine FF.out.mono ?_
  rintro e w1 ⟨rfl, hu⟩
  have H1 := hid (H0.out.new hu)
  have U1 := hid hu
  have c2 := hu.cell C2.out (by simp)
  have cg0 := hu.cell CS.out.1 (by simp)
  have cg2 := hu.cell CS.out.2.2.1 (by simp)
  rw [← HN.out] at cg2
  have HM1 := hid (HM.out.upd hu (by simp))
  have rl : ∃ z, w1.heap[r]? = some z := by
    obtain ⟨cur, q⟩ := own_block H1.out.rows r rfl
    exact ⟨_, q⟩
  have cfr : w1.frozen? ⟨r, p * 3 + 2, none⟩ = false := by
    obtain ⟨cur, q⟩ := own_block H1.out.rows r rfl
    exact blk_frozen q _
  clear hu rl
  go_upto_region 7 with (fail)
  obtain ⟨w2, hw2⟩ : ∃ w2, w2 = w1.setCell ⟨r, p * 3 + 2, none⟩ (.int .i64 2) := ⟨_, rfl⟩
  have H2 := hid (show IsG0 w2 g { s with rows := sayAt s.rows p 2 } _ b by rw [hw2]; exact H1.out.say_set rfl HP.out 2)
  have U2 := hid (show Upd [r] w1 w2 by rw [hw2]; exact (Upd.refl _ w1).setCell (.inl (by simp)) _)
  rw [← hw2]
  have br : b ≠ r := fun q => H1.out.vb (by rw [q]; rfl)
  have HM2 := hid (HM1.out.upd U2.out (by simpa using br))
  have cg3 : w2.cell? ⟨g, 3, none⟩ = some (.map (some b)) := H2.out.cells.2.2.2.1
  clear hw2 c2 cg0 cg2 cfr
  go_wp2_with (first | (at_mapUpdate; refine wpList_put rfl _ _ _ 84 rfl 3 3 Try.underlying84 Try.underlying3 b m rfl HM2.out (t : Int) (.int .i64 0) rfl rfl ?_; intro w3 hm3 hu3; have HM3 := hid hm3; have U3 := hid hu3; clear hm3 hu3))
  go_ret
  have hb := HasMap.of_put (v := 0) HND.out HFF.out (t := t) HM3.out
  have H3 := H2.out.map_set U3.out hb
  refine ⟨rfl, ⟨_, b, H3, HF.out⟩, ?_⟩
  rw [HF.out]
  exact ((U1.out.mono (T := foot g _ b) (fun x hx => by cases hx)).trans U2.out (fun x hx => .inl (by simp at hx; subst hx; exact mem_foot.2 (.inr (.inr rfl))))).trans U3.out (fun x hx => .inl (by simp at hx; subst hx; exact mem_foot.2 (.inr (.inl rfl))))
end Go.Proofs.Ytgkjkgooonicbaa.Gs
