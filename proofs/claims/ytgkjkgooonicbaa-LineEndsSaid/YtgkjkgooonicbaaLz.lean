/- slices.EqualFunc at bodies; the function front. -/
import Derived.Test.YtgkjkgooonicbaaLx
namespace Go.Proofs.Ytgkjkgooonicbaa.Lm
open Go Go.RowKit Go.Proofs.Ytgkjkgooonicbaa Go.Proofs.Ytgkjkgooonicbaa.K Go.Proofs.Ytgkjkgooonicbaa.M Go.Proofs.Ytgkjkgooonicbaa.O

/-- A row's elements. -/
def Elems (w : World) (a : Option Addr) (vs : List Value) : Prop := ∀ i v, vs[i]? = some v → ∃ g, a = some ⟨g, 0, none⟩ ∧ w.cell? ⟨g, i, none⟩ = some v
theorem Elems.of_own {w : World} {B n k : Nat} {a : Option Addr} {vs : List Value} (h : w.ownsRow B 29 1 (.slice a n k) n vs) : Elems w a vs := fun i v hv => by
  obtain ⟨a', k', e, _, _, hc⟩ := own_view h
  simp only [Value.slice.injEq] at e
  obtain ⟨rfl, _, _⟩ := e
  obtain ⟨g, ea, _, c, _⟩ := hc i v hv
  exact ⟨g, ea, c⟩
set_option maxHeartbeats 2000000 in
set_option maxRecDepth 100000 in
theorem eqf_any (a b : Option Addr) (n k k' : Nat) (A : List (List Nat)) (vs us : List Value) (w : World) (hn : n = A.length) (h300 : n ≤ 1000) (ha : Elems w a vs) (hb : Elems w b us) (hvs : Bodies w vs A) (hus : Bodies w (us.take n) A) :
    Calls Try.prog 24 #[.slice a n k, .slice b n k', .func (.func 21) #[] #[]] w fun e w' => e = .returned (.bool true) ∧ w' = w := by
  have HA := hid ha
  have HB := hid hb
  have HV := hid hvs
  have HU := hid hus
  have HN := hid hn
  clear ha hb hvs hus hn
  go_enter Try.func24, Try.ntmps24
  go_wp2_with fail
  go_loopg [17] n (fun d v17 wr => ∃ (i : Nat), v17 = .int .i64 (i : Int) ∧ i ≤ n ∧ Hid (i + d = n) ∧ wr = w)
  case atStart => exact ⟨0, rfl, by omega, hid (by omega), rfl⟩
  case round =>
    obtain ⟨i, rfl, hi, Hd, rfl⟩ := hrel
    by_cases hin : i < n
    · have hi' : (i : Int) < (n : Int) := by omega
      have hvl : i < vs.length := by have := HV.out.1; have := HN.out; omega
      have hul : i < us.length := by have h1 := HU.out.1; have := HN.out; rw [List.length_take] at h1; omega
      obtain ⟨g, rfl, c1⟩ := HA.out i vs[i] (List.getElem?_eq_getElem hvl)
      obtain ⟨g2, rfl, c2⟩ := HB.out i us[i] (List.getElem?_eq_getElem hul)
      have b1 : Body wr vs[i] (A.getD i []) := by
        have := HV.out.2 i (by have := HN.out; omega)
        rw [List.getD_eq_getElem?_getD, List.getElem?_eq_getElem hvl] at this
        exact this
      have b2 : Body wr us[i] (A.getD i []) := by
        have := HU.out.2 i (by have := HN.out; omega)
        rw [List.getD_eq_getElem?_getD, List.getElem?_take, if_pos hin, List.getElem?_eq_getElem hul] at this
        exact this
      obtain ⟨v, hv⟩ : ∃ v, v = vs[i] := ⟨_, rfl⟩
      obtain ⟨u, hu⟩ : ∃ u, u = us[i] := ⟨_, rfl⟩
      rw [← hv] at c1 b1
      rw [← hu] at c2 b2
      have BE := hid (bytes_eq b1 b2)
      clear hv hu b1 b2 hvl hul
      go_wp2_with fail
      refine BE.out.mono ?_
      rintro e w' ⟨rfl, rfl⟩
      go_wp2_with fail
      go_roundg (n - (i + 1))
      case measure => have := Hd.out; omega
      case rel => exact ⟨i + 1, by go_num, by omega, hid (by omega), rfl⟩
    · obtain rfl : i = n := by omega
      go_wp2_with fail
      go_ret
      exact ⟨rfl, rfl⟩
set_option maxHeartbeats 2000000 in
set_option maxRecDepth 100000 in
theorem front_any {w : World} {B B' : Nat} {v u : Value} {A C : List (List Nat)} {vs us : List Value} (hv : w.ownsRow B 29 1 v A.length vs) (hu : w.ownsRow B' 29 1 u C.length us) (bv : Bodies w vs A) (bu : Bodies w us C) (n : Nat) (hA : A = C.take n) (hC : C.length ≤ 1000) :
    Calls Try.prog 27 #[v, u] w fun e w' => e = .returned (.bool true) ∧ w' = w := by
  obtain ⟨a, k, rfl, l1, l2, -⟩ := own_view hv
  obtain ⟨b, k', rfl, l3, l4, -⟩ := own_view hu
  have hle : A.length ≤ C.length := by rw [hA, List.length_take]; omega
  obtain ⟨p, hp⟩ : ∃ p, p = A.length := ⟨_, rfl⟩
  obtain ⟨q, hq⟩ : ∃ q, q = C.length := ⟨_, rfl⟩
  have bt : Bodies w (us.take p) A := by
    have hul := bu.1
    have hAC : A = C.take A.length := by rw [hA, List.length_take]; rw [show min n C.length = A.length by rw [hA, List.length_take]] ; rw [hA]; simp [List.length_take]
    refine ⟨by rw [List.length_take]; omega, fun i hi => ?_⟩
    have := bu.2 i (by omega)
    simp only [List.getD_eq_getElem?_getD] at this ⊢
    rw [List.getElem?_take, if_pos (by omega)]
    rw [hAC, List.getElem?_take, if_pos hi]
    exact this
  have EQ := hid (fun kk => eqf_any a b p k kk A vs us w hp (by omega) (Elems.of_own hv) (Elems.of_own hu) bv bt)
  rw [← hp, ← hq]
  rw [← hp] at l1 hle
  rw [← hq] at l3 hle
  have h1 : (p : Int) ≤ (q : Int) := by omega
  clear hv hu bv bu hA hC hp hq bt
  go_enter Try.func27, Try.ntmps27
  go_wp2_with fail
  refine (EQ.out _).mono ?_
  rintro e w' ⟨rfl, rfl⟩
  go_wp2_with fail
  go_ret
  exact ⟨rfl, rfl⟩
end Go.Proofs.Ytgkjkgooonicbaa.Lm
