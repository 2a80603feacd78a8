/- Names: calls at one of several nodes; namesBegun. -/
import Derived.Test.YtbkhjmdklghbiaaDoorNl
namespace Go.Proofs.YtbkhjmdklghbiaaDoor.Nm
open Go Go.RowKit Go.Proofs.YtbkhjmdklghbiaaDoor Go.Proofs.YtbkhjmdklghbiaaDoor.K Go.Proofs.YtbkhjmdklghbiaaDoor.M Go.Proofs.YtbkhjmdklghbiaaDoor.O Go.Proofs.YtbkhjmdklghbiaaDoor.R

section
variable {B n : Nat} {Z : List Nat} {w : World} {g : Nat → Nat} {s : Nat → G} {b : Nat}
theorem net_find (h : Net B Z n w g s) {i : Nat} (hi : i < n) (ho : Ok (s i) b) (t : Nat) (ht : t < 7) :
    Calls Tryd.prog 15 #[.pointer (some ⟨g i, 0, none⟩), .string (nmS t)] w fun e w' => e = .returned (.tuple #[.int .i64 ((refOf (s i).rows t : Nat) : Int), .int .i64 (if refOf (s i).rows t = 0 then 4 else 0)]) ∧ Upd [] w w' := by
  obtain ⟨F, hg, -, -⟩ := h.step hi
  exact Find_any hg ho.wf t ht
theorem net_set (h : Net B Z n w g s) {i : Nat} (hi : i < n) (hB : B ≤ w.heap.size) (ho : Ok (s i) b) (hb : b ≤ 1000) (t r : Nat) (ht : t < 7) (hr : 1 ≤ r) :
    Calls Tryd.prog 13 #[.pointer (some ⟨g i, 0, none⟩), .string (nmS t), .int .i64 (r : Int)] w fun e w' => e = .returned (.int .i64 0) ∧ Net B Z n w' g (upf s i (gset (s i) t r)) ∧ Far B Z w w' := by
  obtain ⟨F, hg, -, st⟩ := h.step hi
  refine (Set_any hg ho.wf t r ht hr (by have := ho.le; omega)).mono ?_
  rintro e w' ⟨rfl, F', m1, m2, m3⟩
  exact ⟨rfl, st w' F' _ m1 m2 m3 hB⟩
theorem net_drop (h : Net B Z n w g s) {i : Nat} (hi : i < n) (hB : B ≤ w.heap.size) (ho : Ok (s i) b) (hb : b ≤ 1000) (t : Nat) (ht : t < 7) :
    Calls Tryd.prog 14 #[.pointer (some ⟨g i, 0, none⟩), .string (nmS t)] w fun e w' => e = .returned (.int .i64 (if refOf (s i).rows t = 0 then 4 else 0)) ∧ Net B Z n w' g (upf s i (gdrop (s i) t)) ∧ Far B Z w w' := by
  obtain ⟨F, hg, -, st⟩ := h.step hi
  refine (Drop_any hg ho.wf t ht (by have := ho.le; omega)).mono ?_
  rintro e w' ⟨rfl, F', m1, m2, m3⟩
  exact ⟨rfl, st w' F' _ m1 m2 m3 hB⟩
theorem net_state (h : Net B Z n w g s) {i : Nat} (hi : i < n) (ho : Ok (s i) b) :
    Calls Tryd.prog 12 #[.pointer (some ⟨g i, 0, none⟩)] w fun e w' => ∃ v', e = .returned v' ∧ w'.ownsRow w.heap.size 40 4 v' (s i).rows.length (rowCells (s i).rows) ∧ Upd [] w w' := by
  obtain ⟨F, hg, -, -⟩ := h.step hi
  exact state_any hg (by have := ho.wf.few; omega)
theorem net_merge (h : Net B Z n w g s) {i : Nat} (hi : i < n) (hB : B ≤ w.heap.size) (ho : Ok (s i) b) (hb : b ≤ 1000) {v : Value} {b0 : Nat} {k : List Row} (hv : w.ownsRow b0 40 4 v k.length (rowCells k)) (hk : WF k) (hkb : RB k b) :
    Calls Tryd.prog 11 #[.pointer (some ⟨g i, 0, none⟩), v] w fun e w' => e = .returned (.int .i64 0) ∧ Net B Z n w' g (upf s i (gmerge (s i) k)) ∧ Far B Z w w' := by
  obtain ⟨F, hg, -, st⟩ := h.step hi
  obtain ⟨a, c, e, -⟩ := own_view hv
  subst e
  refine (merge_any hg ho (by omega) a k.length c k rfl hk hkb (rowAt_own hv)).mono ?_
  rintro e w' ⟨rfl, F', m1, m2, m3⟩
  exact ⟨rfl, st w' F' _ m1 m2 m3 hB⟩
end
theorem ab_str : nmS 1 = (⟨#[97, 98]⟩ : ByteArray) := by decide +kernel
theorem zz_str : nmS 6 = (⟨#[122, 122]⟩ : ByteArray) := by decide +kernel
theorem a_str : nmS 0 = (⟨#[97]⟩ : ByteArray) := by decide +kernel
theorem refOf_rput {l : List Row} (hw : WF l) (r : Row) (hr : r.name < 7) : refOf (rput l r) r.name = r.ref := ref_mem (hw.rput hr) ((mem_rput hw).2 (.inl rfl))

set_option maxHeartbeats 4000000 in
set_option maxRecDepth 100000 in
theorem begun_true (w : World) : Calls Tryd.prog 8 #[] w fun e w' => e = .returned (.bool true) ∧ Upd [] w w' := by
  have RG := hid (register_any 1 none 0 0 [] w (by decide) (by decide) (fun i hi => by simp at hi) rfl (by decide) (by decide))
  go_enter Tryd.func8, Tryd.ntmps8
  go_wp2_with fail
  refine RG.out.mono ?_
  rintro e w1 ⟨v, rfl, ⟨g, s, ho, hn, hb⟩, hu⟩
  obtain ⟨q, k, e, c⟩ := ptr_at ho (i := 0) (by decide)
  subst e
  have HB := hid (hb 0 (by decide))
  have HN := hid hn
  have HU := hid hu
  have ST := hid (net_set hn (i := 0) (by decide) hu.size (hb 0 (by decide)).ok (by decide) 1 7 (by decide) (by decide))
  rw [ab_str] at ST
  clear ho hn hb hu RG
  go_wp2_with fail
  refine ST.out.mono ?_
  rintro e w2 ⟨rfl, hn2, hf2⟩
  have HU2 := hid (hf2.upd rfl HU.out)
  obtain ⟨S, u2, s1, -⟩ := hf2
  have c2 := u2.cell c (s1 q (by simp [Value.ownBlock]))
  have FD := net_find hn2 (i := 0) (by decide) (by rw [upf_at]; exact HB.out.ok.gset (by decide)) 1 (by decide)
  have e7 : refOf (upf s 0 (gset (s 0) 1 7) 0).rows 1 = 7 := by
    rw [upf_at]
    exact refOf_rput HB.out.ok.wf ⟨1, 7, _, _⟩ (by show 1 < 7; decide)
  rw [e7, if_neg (by decide), ab_str] at FD
  have FH := hid FD
  clear FD e7 u2 s1 hn2 c ST
  go_wp2_with fail
  refine FH.out.mono ?_
  rintro e w3 ⟨rfl, hu3⟩
  have U3 := hid (HU2.out.trans hu3 (fun x hx => by cases hx))
  clear hu3 FH
  go_wp2_with fail
  go_ret
  exact ⟨rfl, U3.out⟩
end Go.Proofs.YtbkhjmdklghbiaaDoor.Nm
