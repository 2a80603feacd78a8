/- Gossip: cmp.Or at two numbers; two calls that may come in either order. -/
import Derived.Test.YtgkjkgooonicbaaGi
namespace Go.Proofs.Ytgkjkgooonicbaa.J
open Go Go.RowKit
section
variable {P : Program} {Q : Exit → Act → World → Prop} {md : Region.Mode} {S : World → Prop} {L : Nat}
/-- Numbers i and j alone may come up. -/
theorem J_two {l : List Oper} {i j : Nat} {oi oj : Oper} {fuel : Nat} {listed : Array Bool} {a : Act} {w : World} (hi : l[i]? = some oi) (hj : l[j]? = some oj) (hin : i < L) (hjn : j < L)
    (hr : Region.ready md l.toArray listed = [i, j])
    (h1 : ∀ K : Act → World → Prop, Shut (∀ a' w', S w' → Go1 P md l.toArray Q S L fuel (listed.setIfInBounds i true) a' w' → K a' w') → if Region.wanted oi (yielded l.toArray a.tmps) = true then Oper.wp P oi a w K Q else K (a.put oi.dst undef) w)
    (h2 : ∀ K : Act → World → Prop, Shut (∀ a' w', S w' → Go1 P md l.toArray Q S L fuel (listed.setIfInBounds j true) a' w' → K a' w') → if Region.wanted oj (yielded l.toArray a.tmps) = true then Oper.wp P oj a w K Q else K (a.put oj.dst undef) w) :
    Go1 P md l.toArray Q S L (fuel + 1) listed a w := fun inv => by
  have hi' : l.toArray[i]? = some oi := by simpa using hi
  have hj' : l.toArray[j]? = some oj := by simpa using hj
  refine ⟨fun h0 => (by rw [hr] at h0; cases h0), fun k hk => ?_⟩
  have hr' := hk
  rw [hr] at hk
  have hkk : k = i ∨ k = j := by simpa using hk
  rcases hkk with rfl | rfl
  · have := h1 (fun a' w' => (k ≠ L → S w') ∧ wpAnyJ P md l.toArray Q S L fuel (listed.setIfInBounds k true) a' w') (fun a' w' hS hG => ⟨fun _ => hS, hG (inv.set hr' hin)⟩)
    unfold wpOp
    simp only [hi']
    split
    · rename_i hw; rw [if_pos hw] at this; exact .inl this
    · rename_i hw; rw [if_neg hw] at this; exact this
  · have := h2 (fun a' w' => (k ≠ L → S w') ∧ wpAnyJ P md l.toArray Q S L fuel (listed.setIfInBounds k true) a' w') (fun a' w' hS hG => ⟨fun _ => hS, hG (inv.set hr' hjn)⟩)
    unfold wpOp
    simp only [hj']
    split
    · rename_i hw; rw [if_pos hw] at this; exact .inl this
    · rename_i hw; rw [if_neg hw] at this; exact this
end
end Go.Proofs.Ytgkjkgooonicbaa.J
namespace Go.Proofs.Ytgkjkgooonicbaa.Gs
open Go Go.RowKit Go.Proofs.Ytgkjkgooonicbaa Go.Proofs.Ytgkjkgooonicbaa.K Go.Proofs.Ytgkjkgooonicbaa.M Go.Proofs.Ytgkjkgooonicbaa.O
def orN (a b : Int) : Int := if a ≠ 0 then a else b

set_option maxHeartbeats 1000000 in
set_option maxRecDepth 100000 in
theorem or_any (a b : Int) (H : Nat) (w : World) (hw : w.heap[H]? = some (.cells #[.int .i64 a, .int .i64 b] 3 (0, 0))) : Calls Try.prog 54 #[.slice (some ⟨H, 0, none⟩) 2 2] w fun e w' => e = .returned (.int .i64 (orN a b)) ∧ Upd [] w w' := by
  have HW := hid hw
  clear hw
  go_enter Try.func54, Try.ntmps54
  go_wp2_with fail
  go_loopg [8] 2 (fun d v8 wr => ∃ i : Nat, v8 = .int .i64 (i : Int) ∧ Hid (i + d = 2) ∧ Hid (0 < i → a = 0) ∧ Hid (1 < i → b = 0) ∧ Hid (Upd [] w wr))
  case atStart => exact ⟨0, rfl, hid rfl, hid (fun h => by omega), hid (fun h => by omega), hid (Upd.refl _ _)⟩
  case round =>
    obtain ⟨i, rfl, Hd, HA, HB, HU⟩ := hrel
    have hb := HU.out.blk HW.out (by simp)
    have c0 := (K.blk_cell hb 0).trans rfl
    have c1 := (K.blk_cell hb 1).trans rfl
    clear hb
    have hi3 : i = 0 ∨ i = 1 ∨ i = 2 := by have := Hd.out; omega
    rcases hi3 with rfl | rfl | rfl
    · by_cases ha : a = 0
      · have hz : (a != 0) = false := by simp [ha]
        have HZ := hid ha
        clear ha
        go_wp2_with fail
        go_roundg 1
        case measure => have := Hd.out; omega
        case rel => exact ⟨1, rfl, hid rfl, hid (fun _ => HZ.out), hid (fun h => by omega), HU⟩
      · have hz : (a != 0) = true := by simp [ha]
        have HZ := hid ha
        clear ha
        go_wp2_with fail
        go_ret
        exact ⟨by rw [show orN a b = a by unfold orN; rw [if_pos HZ.out]]; rfl, HU.out⟩
    · have HZ := hid (HA.out (by omega))
      by_cases hb : b = 0
      · have hz : (b != 0) = false := by simp [hb]
        have HZ2 := hid hb
        clear hb
        go_wp2_with fail
        go_roundg 0
        case measure => have := Hd.out; omega
        case rel => exact ⟨2, rfl, hid rfl, hid (fun _ => HZ.out), hid (fun _ => HZ2.out), HU⟩
      · have hz : (b != 0) = true := by simp [hb]
        clear hb
        go_wp2_with fail
        go_ret
        exact ⟨by rw [show orN a b = b by unfold orN; rw [if_neg (by simp [HZ.out])]]; rfl, HU.out⟩
    · have HZ := hid (HA.out (by omega))
      have HZ2 := hid (HB.out (by omega))
      go_wp2_with fail
      go_ret
      exact ⟨by rw [show orN a b = 0 by unfold orN; rw [if_neg (by simp [HZ.out]), HZ2.out]]; rfl, HU.out⟩
end Go.Proofs.Ytgkjkgooonicbaa.Gs
