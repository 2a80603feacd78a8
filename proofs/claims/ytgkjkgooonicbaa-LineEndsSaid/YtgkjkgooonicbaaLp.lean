/- An end of a line: Tick, Got, Put. -/
import Derived.Test.YtgkjkgooonicbaaLn
import Derived.Deep.Cut
import Derived.Deep.CutRange
namespace Go.Proofs.Ytgkjkgooonicbaa.Lm
open Go Go.RowKit Go.Proofs.Ytgkjkgooonicbaa Go.Proofs.Ytgkjkgooonicbaa.K Go.Proofs.Ytgkjkgooonicbaa.M Go.Proofs.Ytgkjkgooonicbaa.O

/-- Only cells of the end's own block changed. -/
theorem IsE0.re {w w' : World} {g : Nat} {e e' : E} {vk vr : Value} {ks rs : List Value} (h : IsE0 w g e vk vr ks rs) (u : Upd [g] w w') (hk : e'.kept = e.kept) (hr : e'.read = e.read)
    (hb : w'.heap[g]? = some (.cells #[.int .i64 (e'.window : Int), .int .u32 (e'.base : Int), vk, .int .i64 (e'.told : Int), .int .i64 (e'.limit : Int), .int .u32 (e'.want : Int), vr, .bool e'.owe] 79 (0, 0))) : IsE0 w' g e' vk vr ks rs := by
  have n : NoB w [g] := fun s hs ⟨cur, f, hx⟩ => by simp at hs; subst hs; rw [h.blk] at hx; simp at hx
  exact ⟨hb, by rw [hk]; exact own_upd h.kept u (fun k hk hs => by simp at hs; subst hs; exact h.gk hk), by rw [hr]; exact own_upd h.read u (fun k hk hs => by simp at hs; subst hs; exact h.gr hk), by rw [hk]; exact h.kb.upd u n, by rw [hr]; exact h.rb.upd u n, h.kr⟩

def etick (e : E) : E := { e with told := 0, limit := if e.kept.length = 0 then e.limit else max e.limit 1 }
set_option maxHeartbeats 2000000 in
set_option maxRecDepth 100000 in
theorem tick_any {w : World} {F : List Nat} {g : Nat} {e : E} (h : IsE w F g e) :
    Calls Try.prog 23 #[.pointer (some ⟨g, 0, none⟩)] w fun r w' => r = .returned (.tuple #[]) ∧ IsE w' F g (etick e) ∧ Upd F w w' := by
  obtain ⟨vk, vr, ks, rs, h0, hF⟩ := h
  obtain ⟨c0, c1, c2, c3, c4, c5, c6, c7, cf⟩ := h0.cells
  obtain ⟨a, k, e1, l1, l2, -⟩ := own_view h0.kept
  obtain ⟨n, hn⟩ : ∃ n, n = e.kept.length := ⟨_, rfl⟩
  obtain ⟨l, hl⟩ : ∃ l, l = e.limit := ⟨_, rfl⟩
  obtain ⟨mm, hmm⟩ : ∃ mm : Nat, max (l : Int) 1 = (mm : Int) := ⟨max l 1, by omega⟩
  have hmax := fun ats ty => max_nat ats ty .i64 .i64 (l : Int) 1 mm hmm
  have HM : Hid (mm = max l 1) := hid (by omega)
  rw [e1, ← hn] at c2
  rw [← hl] at c4
  have gF : g ∈ F := by rw [hF]; exact mem_foot.2 (.inl rfl)
  have H0 := hid h0
  have HF := hid hF
  have HN := hid hn
  have HLL := hid hl
  have GF := hid gF
  rw [← hn] at l1
  clear h0 hF hn hl hmm e1 gF
  have b1 := hid (blk_set H0.out.blk 3 (.int .i64 0))
  have u1 := hid ((Upd.refl [g] w).setCell (p := ⟨g, 3, none⟩) (.inl (by simp)) (.int .i64 0))
  have c2' : (w.setCell ⟨g, 3, none⟩ (.int .i64 0)).cell? ⟨g, 2, none⟩ = w.cell? ⟨g, 2, none⟩ := by rw [blk_cell b1.out 2, blk_cell H0.out.blk 2]; rfl
  have c4' : (w.setCell ⟨g, 3, none⟩ (.int .i64 0)).cell? ⟨g, 4, none⟩ = w.cell? ⟨g, 4, none⟩ := by rw [blk_cell b1.out 4, blk_cell H0.out.blk 4]; rfl
  rw [c2] at c2'
  rw [c4] at c4'
  have cf' := blk_frozen b1.out
  have UF : Hid (∀ w', Upd [g] w w' → Upd F w w') := hid (fun w' u => u.mono (fun s hs => .inl (by simp at hs; subst hs; exact GF.out)))
  by_cases q : n = 0
  · subst q
    go_enter Try.func23, Try.ntmps23
    go_wp2_with fail
    go_end0
    refine ⟨rfl, ⟨vk, vr, ks, rs, H0.out.re u1.out rfl rfl (b1.out.trans ?_), HF.out⟩, UF.out _ u1.out⟩
    simp [etick, ← HN.out]
  · have q' : (0 : Int) < (n : Int) := by omega
    have Q := hid q
    clear q
    go_enter Try.func23, Try.ntmps23
    go_wp2_with fail
    go_end0
    have u2 := u1.out.setCell (p := ⟨g, 4, none⟩) (.inl (by simp)) (.int .i64 (mm : Int))
    refine ⟨rfl, ⟨vk, vr, ks, rs, H0.out.re u2 rfl rfl ((blk_set b1.out 4 _).trans ?_), HF.out⟩, UF.out _ u2⟩
    have e2 : (etick e).limit = mm := by unfold etick; rw [← HN.out, if_neg Q.out, ← HLL.out, HM.out]
    simp only [e2]
    rfl

def egot (e : E) : E := { e with read := [], owe := e.owe || decide (0 < e.read.length) }
set_option maxHeartbeats 2000000 in
set_option maxRecDepth 100000 in
theorem got_any {w : World} {F : List Nat} {g : Nat} {e : E} (h : IsE w F g e) :
    Calls Try.prog 25 #[.pointer (some ⟨g, 0, none⟩)] w fun r w' => ∃ F' v rs, r = .returned v ∧ w'.ownsRow 0 29 1 v e.read.length rs ∧ Bodies w' rs e.read ∧ IsE w' F' g (egot e) ∧ Fresh w F F' ∧ Upd F w w' := by
  obtain ⟨vk, vr, ks, rs, h0, hF⟩ := h
  obtain ⟨c0, c1, c2, c3, c4, c5, c6, c7, cf⟩ := h0.cells
  obtain ⟨a, k, e1, l1, l2, -⟩ := own_view h0.read
  obtain ⟨n, hn⟩ : ∃ n, n = e.read.length := ⟨_, rfl⟩
  obtain ⟨ow, how⟩ : ∃ ow, ow = e.owe := ⟨_, rfl⟩
  rw [e1, ← hn] at c6
  rw [← how] at c7
  have gF : g ∈ F := by rw [hF]; exact mem_foot.2 (.inl rfl)
  have H0 := hid h0
  have HF := hid hF
  have HN := hid hn
  have HOW := hid how
  have HV := hid e1
  have GF := hid gF
  rw [← hn] at l1
  clear h0 hF hn how e1 gF
  have b1 := hid (blk_set H0.out.blk 6 (.slice none 0 0))
  have u1 := hid ((Upd.refl [g] w).setCell (p := ⟨g, 6, none⟩) (.inl (by simp)) (.slice none 0 0))
  have c7' : (w.setCell ⟨g, 6, none⟩ (.slice none 0 0)).cell? ⟨g, 7, none⟩ = w.cell? ⟨g, 7, none⟩ := by rw [blk_cell b1.out 7, blk_cell H0.out.blk 7]; rfl
  rw [c7] at c7'
  have cf' := blk_frozen b1.out
  have FIN : Hid (∀ ow', ow' = (e.owe || decide (0 < e.read.length)) → (∃ F' v rs, (Ending.returned (.slice a n k) : Ending) = .returned v ∧ ((w.setCell ⟨g, 6, none⟩ (.slice none 0 0)).setCell ⟨g, 7, none⟩ (.bool ow')).ownsRow 0 29 1 v e.read.length rs ∧ Bodies ((w.setCell ⟨g, 6, none⟩ (.slice none 0 0)).setCell ⟨g, 7, none⟩ (.bool ow')) rs e.read ∧ IsE ((w.setCell ⟨g, 6, none⟩ (.slice none 0 0)).setCell ⟨g, 7, none⟩ (.bool ow')) F' g (egot e) ∧ Fresh w F F' ∧ Upd F w ((w.setCell ⟨g, 6, none⟩ (.slice none 0 0)).setCell ⟨g, 7, none⟩ (.bool ow')))) := hid (fun ow' ho => by
    have u2 := u1.out.setCell (p := ⟨g, 7, none⟩) (.inl (by simp)) (.bool ow')
    have h0 := H0.out
    have n : NoB w [g] := fun s hs ⟨cur, f, hx⟩ => by simp at hs; subst hs; rw [h0.blk] at hx; simp at hx
    refine ⟨foot g vk (.slice none 0 0), .slice a _ k, rs, rfl, ?_, h0.rb.upd u2 n, ⟨vk, .slice none 0 0, ks, [], ⟨?_, own_upd h0.kept u2 (fun k hk hs => by simp at hs; subst hs; exact h0.gk hk), World.ownsRow_nil _ _ _ _, h0.kb.upd u2 n, Bodies.nil _, fun x _ hx => by cases hx⟩, rfl⟩, fun s hs => .inl ?_, u2.mono (fun s hs => .inl (by simp at hs; subst hs; exact GF.out))⟩
    · have hr := own_upd h0.read u2 (fun k hk hs => by simp at hs; subst hs; exact h0.gr hk)
      rw [HV.out, ← HN.out] at hr
      rw [← HN.out]; exact hr
    · refine (blk_set b1.out 7 _).trans ?_
      rw [ho]
      rfl
    · rw [HF.out]
      rcases mem_foot.1 hs with q | q | q
      · exact mem_foot.2 (.inl q)
      · exact mem_foot.2 (.inr (.inl q))
      · cases q)
  cases ow with
  | true =>
    go_enter Try.func25, Try.ntmps25
    go_wp2_with fail
    go_ret
    exact FIN.out true (by rw [← HOW.out]; rfl)
  | false =>
    by_cases q : n = 0
    · subst q
      go_enter Try.func25, Try.ntmps25
      go_wp2_with fail
      go_ret
      exact FIN.out false (by rw [← HOW.out, ← HN.out]; rfl)
    · have q' : (0 : Int) < (n : Int) := by omega
      have Q := hid q
      clear q
      go_enter Try.func25, Try.ntmps25
      go_wp2_with fail
      go_ret
      exact FIN.out (decide (0 < n)) (by rw [← HOW.out, ← HN.out]; rfl)
end Go.Proofs.Ytgkjkgooonicbaa.Lm
