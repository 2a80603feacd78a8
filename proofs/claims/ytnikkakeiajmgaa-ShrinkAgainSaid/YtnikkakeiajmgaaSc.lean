/- The functions that ShrinkAgain hands to shrink.List. -/
import Derived.Test.YtnikkakeiajmgaaSb
namespace Go.Proofs.Ytnikkakeiajmgaa.Sh
open Go Go.RowKit Go.Proofs.Ytnikkakeiajmgaa Go.Proofs.Ytnikkakeiajmgaa.K Go.Proofs.Ytnikkakeiajmgaa.M Go.Proofs.Ytnikkakeiajmgaa.O Go.Proofs.Ytnikkakeiajmgaa.R Go.Proofs.Ytnikkakeiajmgaa.So Go.Proofs.Ytnikkakeiajmgaa.Pa

/-- All that is needed is there. -/
def pAll (need xs : List Int) : Bool := need.all (fun m => decide (m ∈ xs))
theorem pAll_iff {need xs : List Int} : pAll need xs = true ↔ ∀ m ∈ need, m ∈ xs := by simp [pAll]
def pPos (xs : List Int) : Bool := decide (0 < xs.length)
set_option maxHeartbeats 4000000 in
set_option maxRecDepth 100000 in
theorem clos25 (a : Option Addr) (n c : Nat) (xs : List Int) (w : World) (h : LR w a n c xs) :
    Calls Try.prog 25 #[.slice a n c] w fun e w' => e = .returned (.bool (pPos xs)) ∧ Upd [] w w' := by
  have hl := h.2.1
  unfold pPos
  rw [hl]
  clear h hl
  go_enter Try.func25, Try.ntmps25
  go_wp2_with fail
  go_ret
  refine ⟨K.ret_bool ?_, Upd.refl _ _⟩
  by_cases h : 0 < n <;> simp [h]
set_option maxHeartbeats 4000000 in
set_option maxRecDepth 100000 in
theorem clos28 (P : Nat) (m : Int) (a : Option Addr) (n c : Nat) (xs : List Int) (w : World) (hP : w.cell? ⟨P, 0, none⟩ = some (.slice a n c)) (h : LR w a n c xs) :
    Calls Try.prog 28 #[.int .i64 m, .pointer (some ⟨P, 0, none⟩)] w fun e w' => e = .returned (.bool (!decide (m ∈ xs))) ∧ w' = w := by
  have CT := hid (contains_any a n c xs m w h)
  clear h
  go_enter Try.func28, Try.ntmps28
  go_wp2_with fail
  refine CT.out.mono ?_
  rintro e w1 ⟨rfl, rfl⟩
  obtain ⟨q, hq⟩ : ∃ q, q = decide (m ∈ xs) := ⟨_, rfl⟩
  rw [← hq]
  have HQ := hid hq
  clear CT hq
  go_wp2_with fail
  go_ret
  refine ⟨?_, rfl⟩
  rw [← HQ.out]
  rfl
set_option maxHeartbeats 4000000 in
set_option maxRecDepth 100000 in
theorem index28 (P : Nat) (an : Option Addr) (nn nc : Nat) (need : List Int) (a : Option Addr) (n c : Nat) (xs : List Int) (w : World) (hP : w.cell? ⟨P, 0, none⟩ = some (.slice a n c)) (h : LR w a n c xs) (hn : LR w an nn nc need) :
    Calls Try.prog 45 #[.slice an nn nc, .func (.func 28) #[] #[.pointer (some ⟨P, 0, none⟩)]] w fun e w' => (∃ r : Int, e = .returned (.int .i64 r) ∧ (0 ≤ r ↔ pAll need xs = false)) ∧ w' = w := by
  have HX := hid hn.1
  have HL := hid hn.2.1
  have HP := hid hP
  have HH := hid h
  have hn9 : nn ≤ 9223372036854775807 := by have := hn.2.2; omega
  clear h hn hP
  go_enter Try.func45, Try.ntmps45
  go_wp2_with fail
  go_loopg [8] nn (fun d v8 wr => ∃ (i : Nat), v8 = .int .i64 (i : Int) ∧ i ≤ nn ∧ Hid (i + d = nn) ∧ Hid (pAll (need.take i) xs = true) ∧ wr = w)
  case atStart => exact ⟨0, rfl, by omega, hid (by omega), hid rfl, rfl⟩
  case round =>
    obtain ⟨i, rfl, hin, Hi, HF, hw⟩ := hrel
    have hw' := hw.symm
    subst hw'
    clear hw
    by_cases hi : i < nn
    · have hi' : (i : Int) < (nn : Int) := by omega
      obtain ⟨y, rfl, hc⟩ := HX.out i (by rw [HL.out]; exact hi)
      have hix : i < need.length := by rw [HL.out]; exact hi
      have HTK := hid (show need.take (i + 1) = need.take i ++ [need.getD i 0] by
        rw [List.take_add_one, List.getD_eq_getElem?_getD, List.getElem?_eq_getElem hix]; rfl)
      have HM := hid (show need.getD i 0 ∈ need by rw [List.getD_eq_getElem?_getD, List.getElem?_eq_getElem hix]; exact List.getElem_mem hix)
      obtain ⟨z, hz⟩ : ∃ z, z = need.getD i 0 := ⟨_, rfl⟩
      rw [← hz] at hc HTK HM
      have CL := hid (clos28 P z a n c xs w HP.out HH.out)
      clear hz hix
      by_cases hxz : z ∈ xs
      · rw [decide_eq_true hxz] at CL
        have HXZ := hid hxz
        clear hxz
        go_wp2_with fail
        refine CL.out.mono ?_
        rintro e w1 ⟨rfl, rfl⟩
        go_wp2_with fail
        go_roundg (nn - (i + 1))
        case measure => have := Hi.out; omega
        case rel =>
          refine ⟨i + 1, by go_num, by omega, hid (by omega), hid ?_, rfl⟩
          rw [HTK.out]
          unfold pAll
          rw [List.all_append]
          have := HF.out
          unfold pAll at this
          rw [this]
          simp [HXZ.out]
      · rw [decide_eq_false hxz] at CL
        have HXZ := hid hxz
        clear hxz
        go_wp2_with fail
        refine CL.out.mono ?_
        rintro e w1 ⟨rfl, rfl⟩
        go_wp2_with fail
        go_ret
        refine ⟨⟨(i : Int), rfl, ⟨fun _ => ?_, fun _ => by omega⟩⟩, rfl⟩
        rw [Bool.eq_false_iff]
        intro h
        exact HXZ.out (pAll_iff.1 h _ HM.out)
    · have ei : i = nn := by omega
      have hi' : ¬ (i : Int) < (nn : Int) := by omega
      have hf := HF.out
      rw [ei, List.take_of_length_le (by rw [HL.out]; exact Nat.le_refl _)] at hf
      have HF2 := hid hf
      clear hf ei
      go_wp2_with fail
      go_ret
      exact ⟨⟨-1, rfl, ⟨fun h => by omega, fun h => by rw [HF2.out] at h; cases h⟩⟩, rfl⟩
set_option maxHeartbeats 4000000 in
theorem contains28 (P : Nat) (an : Option Addr) (nn nc : Nat) (need : List Int) (a : Option Addr) (n c : Nat) (xs : List Int) (w : World) (hP : w.cell? ⟨P, 0, none⟩ = some (.slice a n c)) (h : LR w a n c xs) (hn : LR w an nn nc need) :
    Calls Try.prog 27 #[.slice an nn nc, .func (.func 28) #[] #[.pointer (some ⟨P, 0, none⟩)]] w fun e w' => e = .returned (.bool (!pAll need xs)) ∧ w' = w := by
  have ix := hid (index28 P an nn nc need a n c xs w hP h hn)
  clear h hn hP
  go_enter Try.func27, Try.ntmps27
  go_wp2_with fail
  refine ix.out.mono ?_
  rintro e w6 ⟨⟨r, rfl, hr⟩, rfl⟩
  have HR := hid hr
  clear ix hr
  go_wp2_with fail
  go_ret
  refine ⟨K.ret_bool ?_, rfl⟩
  have h := HR.out
  cases hq : pAll need xs with
  | true => rw [hq] at h; simp at h; simp; omega
  | false => rw [hq] at h; simp at h; simp; omega
set_option maxHeartbeats 4000000 in
set_option maxRecDepth 100000 in
theorem clos26 (X : Nat) (an : Option Addr) (nn nc : Nat) (need : List Int) (a : Option Addr) (n c : Nat) (xs : List Int) (w : World) (hX : w.cell? ⟨X, 0, none⟩ = some (.slice an nn nc)) (h : LR w a n c xs) (hn : LR w an nn nc need) :
    Calls Try.prog 26 #[.slice a n c, .pointer (some ⟨X, 0, none⟩)] w fun e w' => e = .returned (.bool (pAll need xs)) ∧ Upd [] w w' := by
  obtain ⟨w1, hw1⟩ : ∃ w1, w1 = w.alloc (.cells #[.slice a n c] 22) := ⟨_, rfl⟩
  obtain ⟨Y, hY⟩ : ∃ Y, Y = w.heap.size := ⟨_, rfl⟩
  have u1 := hid (show Upd [] w w1 by rw [hw1]; exact (Upd.refl [] w).alloc _)
  have Y1 := hid (show w1.cell? ⟨Y, 0, none⟩ = some (.slice a n c) by rw [hw1, hY]; exact K.blk_cell (K.blk_new w _) 0)
  have hP := World.block_lt_of_cell? w _ hX
  have hmf : ∀ (fn : Fn) (first cap : Array Value) (w : World), (Instr.makeFunc fn first cap).run Try.prog w = .ok (.func fn first cap) w := fun _ _ _ _ => rfl
  simp only at hP
  have CN := hid (contains28 Y an nn nc need a n c xs w1 Y1.out (h.upd u1.out) (hn.upd u1.out))
  clear h hn
  obtain ⟨q, hq⟩ : ∃ q, q = pAll need xs := ⟨_, rfl⟩
  rw [← hq] at CN ⊢
  clear hq
  go_enter Try.func26, Try.ntmps26
  go_wp2_with fail
  rw [← hw1, ← hY]
  refine CN.out.mono ?_
  rintro e w2 ⟨rfl, rfl⟩
  clear CN hw1 hY
  go_wp2_with fail
  go_ret
  exact ⟨rfl, u1.out⟩

/-! What is left. -/
/-- Nothing more can be left out. -/
def Least (p : List Int → Bool) (xs : List Int) : Prop := ∀ i, i < xs.length → p (xs.eraseIdx i) = false
/-- No part at all can be left out. -/
def Tight (p : List Int → Bool) (xs : List Int) : Prop := ∀ f t, f < t → t ≤ xs.length → p (xs.take f ++ xs.drop t) = false
theorem erase_eq (xs : List Int) (f : Nat) : xs.take f ++ xs.drop (f + 1) = xs.eraseIdx f := (List.eraseIdx_eq_take_drop_succ xs f).symm
end Go.Proofs.Ytnikkakeiajmgaa.Sh
