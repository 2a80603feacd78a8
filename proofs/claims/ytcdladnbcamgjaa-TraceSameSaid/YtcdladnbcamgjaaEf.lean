/- slices.EqualFunc at rows of clocks that are alike. -/
import Derived.Test.YtcdladnbcamgjaaHa
namespace Go.Proofs.Ytcdladnbcamgjaa.Ef
open Go Go.RowKit Go.Proofs.Ytcdladnbcamgjaa.K Go.Proofs.Ytcdladnbcamgjaa.Ev Go.Proofs.Ytcdladnbcamgjaa.CL Go.Proofs.Ytcdladnbcamgjaa.CW

/-- Rows of eight numbers. -/
def Rowz (w : World) (a : Option Addr) (n : Nat) (F : Nat → List Int) : Prop := ∀ j, j < n → ∃ h g c, a = some ⟨h, 0, none⟩ ∧ w.cell? ⟨h, j, none⟩ = some (.slice (some ⟨g, 0, none⟩) 8 c) ∧ IntRow w (some ⟨g, 0, none⟩) (F j) ∧ (F j).length = 8
theorem Rowz.upd {w w' : World} {a : Option Addr} {n : Nat} {F : Nat → List Int} (h : Rowz w a n F) (u : Upd [] w w') : Rowz w' a n F := fun i hi =>
  let ⟨x, g, c, h1, h2, h3, h4⟩ := h i hi; ⟨x, g, c, h1, u.cell h2 (by simp), h3.upd u, h4⟩

set_option maxHeartbeats 2000000 in
theorem eq29 (g1 c1 g2 c2 : Nat) (xs : List Int) (w : World) (h1 : IntRow w (some ⟨g1, 0, none⟩) xs) (h2 : IntRow w (some ⟨g2, 0, none⟩) xs) (hl : xs.length = 8) :
    Calls Try.prog 29 #[.slice (some ⟨g1, 0, none⟩) 8 c1, .slice (some ⟨g2, 0, none⟩) 8 c2] w fun e w' => e = .returned (.bool true) ∧ Upd [] w w' := by
  have c := EQ.equal_any (some ⟨g1, 0, none⟩) 8 c1 xs (some ⟨g2, 0, none⟩) 8 c2 xs w h1 hl h2 hl (by omega) (by omega)
  rw [decide_eq_true rfl] at c
  clear h1 h2 hl
  go_enter Try.func29, Try.ntmps29
  go_wp2_with fail
  refine c.mono ?_
  rintro e w' ⟨rfl, q, rfl⟩
  clear c
  go_wp2_with fail
  go_ret
  exact ⟨rfl, (Upd.refl [] w).drewN q⟩

set_option maxHeartbeats 4000000 in
set_option maxRecDepth 100000 in
theorem eqf29 (a b : Option Addr) (n c d : Nat) (F : Nat → List Int) (w : World) (ha : Rowz w a n F) (hb : Rowz w b n F) (hn : n ≤ 1000) :
    Calls Try.prog 28 #[.slice a n c, .slice b n d, .func (.func 29) #[] #[]] w fun e w' => e = .returned (.bool true) ∧ Upd [] w w' := by
  have HA := hid ha
  have HB := hid hb
  clear ha hb
  go_enter Try.func28, Try.ntmps28
  go_wp2_with fail
  go_loopg [17] n (fun d v17 wr => ∃ (i : Nat), v17 = .int .i64 (i : Int) ∧ i ≤ n ∧ Hid (i + d = n) ∧ Hid (Upd [] w wr))
  case atStart => exact ⟨0, rfl, by omega, by show _ = _; omega, Upd.refl _ _⟩
  case round =>
    obtain ⟨i, rfl, hin, Hi, Hu⟩ := hrel
    by_cases hi : i < n
    · have hi' : (i : Int) < (n : Int) := by omega
      obtain ⟨h1, g1, k1, rfl, q1, r1, l1⟩ := HA.out.upd Hu.out i hi
      obtain ⟨h2, g2, k2, rfl, q2, r2, l2⟩ := HB.out.upd Hu.out i hi
      have R1 := hid r1
      have R2 := hid r2
      have L1 := hid l1
      clear r1 r2 l1 l2
      go_wp2_with fail
      refine (eq29 g1 k1 g2 k2 (F i) _ R1.out R2.out L1.out).mono ?_
      rintro e w' ⟨rfl, hu⟩
      have V := hid (Hu.out.trans hu (by simp))
      clear hu
      go_wp2_with fail
      go_roundg (n - (i + 1))
      case measure => have := Hi.out; omega
      case rel => exact ⟨i + 1, by go_num, by omega, by show _ = _; omega, V.out⟩
    · obtain rfl : i = n := by omega
      go_wp2_with fail
      go_ret
      exact ⟨rfl, Hu.out⟩

set_option maxHeartbeats 2000000 in
theorem eq57 (g1 c1 g2 c2 : Nat) (xs : List Int) (w : World) (h1 : IntRow w (some ⟨g1, 0, none⟩) xs) (h2 : IntRow w (some ⟨g2, 0, none⟩) xs) (hl : xs.length = 8) :
    Calls Try.prog 57 #[.slice (some ⟨g1, 0, none⟩) 8 c1, .slice (some ⟨g2, 0, none⟩) 8 c2] w fun e w' => e = .returned (.bool true) ∧ Upd [] w w' := by
  have c := EQ.equal_any (some ⟨g1, 0, none⟩) 8 c1 xs (some ⟨g2, 0, none⟩) 8 c2 xs w h1 hl h2 hl (by omega) (by omega)
  rw [decide_eq_true rfl] at c
  clear h1 h2 hl
  go_enter Try.func57, Try.ntmps57
  go_wp2_with fail
  refine c.mono ?_
  rintro e w' ⟨rfl, q, rfl⟩
  clear c
  go_wp2_with fail
  go_ret
  exact ⟨rfl, (Upd.refl [] w).drewN q⟩

set_option maxHeartbeats 4000000 in
set_option maxRecDepth 100000 in
theorem eqf57 (a b : Option Addr) (n c d : Nat) (F : Nat → List Int) (w : World) (ha : Rowz w a n F) (hb : Rowz w b n F) (hn : n ≤ 1000) :
    Calls Try.prog 28 #[.slice a n c, .slice b n d, .func (.func 57) #[] #[]] w fun e w' => e = .returned (.bool true) ∧ Upd [] w w' := by
  have HA := hid ha
  have HB := hid hb
  clear ha hb
  go_enter Try.func28, Try.ntmps28
  go_wp2_with fail
  go_loopg [17] n (fun d v17 wr => ∃ (i : Nat), v17 = .int .i64 (i : Int) ∧ i ≤ n ∧ Hid (i + d = n) ∧ Hid (Upd [] w wr))
  case atStart => exact ⟨0, rfl, by omega, by show _ = _; omega, Upd.refl _ _⟩
  case round =>
    obtain ⟨i, rfl, hin, Hi, Hu⟩ := hrel
    by_cases hi : i < n
    · have hi' : (i : Int) < (n : Int) := by omega
      obtain ⟨h1, g1, k1, rfl, q1, r1, l1⟩ := HA.out.upd Hu.out i hi
      obtain ⟨h2, g2, k2, rfl, q2, r2, l2⟩ := HB.out.upd Hu.out i hi
      have R1 := hid r1
      have R2 := hid r2
      have L1 := hid l1
      clear r1 r2 l1 l2
      go_wp2_with fail
      refine (eq57 g1 k1 g2 k2 (F i) _ R1.out R2.out L1.out).mono ?_
      rintro e w' ⟨rfl, hu⟩
      have V := hid (Hu.out.trans hu (by simp))
      clear hu
      go_wp2_with fail
      go_roundg (n - (i + 1))
      case measure => have := Hi.out; omega
      case rel => exact ⟨i + 1, by go_num, by omega, by show _ = _; omega, V.out⟩
    · obtain rfl : i = n := by omega
      go_wp2_with fail
      go_ret
      exact ⟨rfl, Hu.out⟩
end Go.Proofs.Ytcdladnbcamgjaa.Ef
