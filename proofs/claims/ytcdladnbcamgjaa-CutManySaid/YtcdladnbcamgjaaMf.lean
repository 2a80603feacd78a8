/- What cut.All answers of histories in which nobody talks, and of short ones. -/
import Derived.Test.YtcdladnbcamgjaaMd
import Derived.Test.YtcdladnbcamgjaaHi
namespace Go.Proofs.Ytcdladnbcamgjaa.CuM
open Go Go.RowKit Go.Proofs.Ytcdladnbcamgjaa Go.Proofs.Ytcdladnbcamgjaa.K Go.Proofs.Ytcdladnbcamgjaa.M Go.Proofs.Ytcdladnbcamgjaa.O Go.Proofs.Ytcdladnbcamgjaa.MS Go.Proofs.Ytcdladnbcamgjaa.Ck
open Go.Proofs.Ytcdladnbcamgjaa.Ev Go.Proofs.Ytcdladnbcamgjaa.CL Go.Proofs.Ytcdladnbcamgjaa.CW Go.Proofs.Ytcdladnbcamgjaa.Th Go.Proofs.Ytcdladnbcamgjaa.Cu Go.Proofs.Ytcdladnbcamgjaa.CuT Go.Proofs.Ytcdladnbcamgjaa.Cv

/-- The first a events at place x, the others at place y. -/
def quietL (x y a n : Nat) : List Ev := (List.range n).map (fun k => ⟨if k < a then x else y, 1, 0⟩)
theorem quiet_len (x y a n : Nat) : (quietL x y a n).length = n := by simp [quietL]
theorem quiet_snoc (x y a n : Nat) : quietL x y a (n + 1) = quietL x y a n ++ [⟨if n < a then x else y, 1, 0⟩] := by simp [quietL, List.range_succ]
theorem quiet_ev (x y a n k : Nat) (hk : k < n) : ev (quietL x y a n) k = ⟨if k < a then x else y, 1, 0⟩ := by
  show (quietL x y a n).getD k noEv = _
  simp only [quietL, List.getD_eq_getElem?_getD, List.getElem?_map, List.getElem?_range hk]; rfl
theorem quiet_valid (x y a : Nat) (hx : x < 8) (hy : y < 8) : ∀ n, Valid (quietL x y a n)
  | 0 => valid_nil
  | n + 1 => by
    rw [quiet_snoc]
    exact valid_snoc (quiet_valid x y a hx hy n) ⟨by simp, by simp, by simp; split <;> omega, by simp, by simp, by simp, by simp⟩
theorem quiet_cnt (x y a n p : Nat) (hxy : x ≠ y) : ∀ j, j ≤ n → cnt (quietL x y a n) p j = if p = x then min j a else if p = y then j - a else 0
  | 0, _ => by simp [cnt]
  | j + 1, h => by
    simp only [cnt]
    rw [quiet_cnt x y a n p hxy j (by omega), quiet_ev x y a n j (by omega)]
    by_cases e : p = x
    · subst e
      simp only [if_pos]
      by_cases h : j < a
      · rw [if_pos h]; simp; omega
      · rw [if_neg h, if_neg (fun q => hxy q.symm)]; omega
    · by_cases e2 : p = y
      · subst e2
        simp only [if_neg e, if_pos]
        by_cases h : j < a
        · rw [if_pos h, if_neg hxy]; omega
        · rw [if_neg h]; simp; omega
      · simp only [if_neg e, if_neg e2]
        by_cases h : j < a
        · rw [if_pos h, if_neg (fun q => e q.symm)]
        · rw [if_neg h, if_neg (fun q => e2 q.symm)]
theorem all_quiet (a : Option Addr) (cap : Nat) (x y na nb : Nat) (w : World) (hx : EvRow w a (quietL x y na (na + nb))) (hlc : na + nb ≤ cap) (hc : cap ≤ 9223372036854775807) (hxy : (x = 0 ∧ y = 1) ∨ (x = 2 ∧ y = 5)) (hna : na < 20) (hnb : nb < 20) :
    Calls Try.prog 31 #[.slice a (na + nb) cap] w fun e w' => e = .returned (.tuple #[.int .i64 (((na + 1) * (nb + 1) : Nat) : Int), .int .i64 0]) ∧ Upd [] w w' := by
  have hx8 : x < 8 ∧ y < 8 ∧ x ≠ y := by omega
  have hv := quiet_valid x y na hx8.1 hx8.2.1 (na + nb)
  have hcn : ∀ p, p < 8 → cnt (quietL x y na (na + nb)) p (quietL x y na (na + nb)).length = if p = x then na else if p = y then nb else 0 := fun p _ => by
    rw [quiet_len, quiet_cnt x y na (na + nb) p hx8.2.2 (na + nb) (Nat.le_refl _)]
    split
    · omega
    · split
      · omega
      · rfl
  have hbx := boxN_two na nb x y hcn hxy
  have hlt : (na + 1) * (nb + 1) ≤ 20 * 20 := Nat.mul_le_mul (by omega) (by omega)
  have h := all_any a cap (quietL x y na (na + nb)) w hx (by rw [quiet_len]; exact hlc) hc (by rw [quiet_len]; omega) hv (by rw [hbx]; omega)
  rw [quiet_len] at h
  refine h.mono ?_
  rintro e w' ⟨row, i, rfl, hs, hi, hu⟩
  refine ⟨?_, hu⟩
  have h1 := hs.few
  rw [hbx] at h1
  have h2 := hs.quiet hi x y na nb hx8.1 hx8.2.1 hx8.2.2 (fun k hk => by rw [quiet_len] at hk; rw [quiet_ev _ _ _ _ _ hk]) hcn
  rw [show row.length = (na + 1) * (nb + 1) by omega]
theorem all_short (a : Option Addr) (cap : Nat) (l : List Ev) (w : World) (hx : EvRow w a l) (hlc : l.length ≤ cap) (hc : cap ≤ 9223372036854775807) (hn : l.length ≤ 12) (hv : Valid l) :
    Calls Try.prog 31 #[.slice a l.length cap] w fun e w' => ∃ n : Nat, e = .returned (.tuple #[.int .i64 (n : Int), .int .i64 0]) ∧ l.length + 1 ≤ n ∧ n ≤ 5000 ∧ Upd [] w w' := by
  have hbx : boxN (cts l) ≤ 5000 := by
    have h1 := boxN_pow (cts l)
    rw [cts_sum hv] at h1
    have h2 : 2 ^ l.length ≤ 2 ^ 12 := Nat.pow_le_pow_right (by omega) hn
    omega
  refine (all_any a cap l w hx hlc hc (by omega) hv hbx).mono ?_
  rintro e w' ⟨row, i, rfl, hs, hi, hu⟩
  exact ⟨row.length, rfl, hs.many hv hi, Nat.le_trans hs.few hbx, hu⟩
end Go.Proofs.Ytcdladnbcamgjaa.CuM
