/- The walks of shrink.List with the two failing functions of ShrinkFew, which look at the length alone. -/
import Derived.Test.YtmdhhembkmkfdaaSh
namespace Go.Proofs.Ytmdhhembkmkfdaa.Sh
open Go Go.RowKit Go.Proofs.Ytmdhhembkmkfdaa.K Go.Proofs.Ytmdhhembkmkfdaa.O Go.Proofs.Ytmdhhembkmkfdaa.CL

set_option maxHeartbeats 4000000 in
set_option maxRecDepth 100000 in
theorem fails33 (a : Option Addr) (n c : Nat) (w : World) :
    Calls Try.prog 33 #[.slice a n c] w fun e w' => e = .returned (.bool (decide (1 ≤ n))) ∧ w' = w := by
  go_enter Try.func33, Try.ntmps33
  go_wp2_with fail
  go_ret
  refine ⟨ret_bool ?_, rfl⟩
  by_cases h : 1 ≤ n <;> simp [h] <;> omega
set_option maxHeartbeats 4000000 in
set_option maxRecDepth 100000 in
theorem fails34 (a : Option Addr) (n c : Nat) (kb k : Nat) (w : World) (hk : w.cell? ⟨kb, 0, none⟩ = some (.int .i64 (k : Int))) :
    Calls Try.prog 34 #[.slice a n c, .pointer (some ⟨kb, 0, none⟩)] w fun e w' => e = .returned (.bool (decide (k ≤ n))) ∧ w' = w := by
  go_enter Try.func34, Try.ntmps34
  go_wp2_with fail
  go_ret
  refine ⟨ret_bool ?_, rfl⟩
  by_cases h : k ≤ n <;> simp [h]

theorem clone_any (a : Option Addr) (n c : Nat) (w : World) (h : LRow w a n c) (hn : n ≤ 200) :
    Calls Try.prog 57 #[.slice a n c] w fun e w' => ∃ a k, e = .returned (.slice a n k) ∧ LRow w' a n k ∧ Upd [] w w' := by
  cases a with
  | some x => exact clone_some x n c w h hn
  | none =>
    have h0 : n = 0 := by
      by_cases h0 : 0 < n
      · obtain ⟨x, e⟩ := h.isome h0; cases e
      · omega
    subst h0
    exact (clone_none 0 c w).mono fun e w' ⟨he, hw⟩ => ⟨none, 0, he, LRow.zero _, by rw [hw]; exact Upd.refl _ _⟩

set_option maxHeartbeats 4000000 in
set_option maxRecDepth 100000 in
theorem list34 (a : Option Addr) (n c : Nat) (kb k : Nat) (w : World) (hk : w.cell? ⟨kb, 0, none⟩ = some (.int .i64 (k : Int))) (h : LRow w a n c) (hn : n ≤ 200) :
    Calls Try.prog 32 #[.slice a n c, .func (.func 34) #[] #[.pointer (some ⟨kb, 0, none⟩)]] w fun e w' =>
      (∃ x d, e = .returned (.tuple #[.slice x (if k ≤ n then k else 0) d, .int .i64 (if k ≤ n then 0 else 4)])) ∧ Upd [] w w' := by
  have HK := hid hk
  have HR := hid h
  clear hk h
  by_cases hkn : k ≤ n
  · rw [if_pos hkn, if_pos hkn]
    have d1 : decide (k ≤ n) = true := decide_eq_true hkn
    have D1 := hid d1
    clear d1
    go_enter Try.func32, Try.ntmps32
    go_wp2_with fail
    refine (clone_any a n c _ HR.out hn).mono ?_
    rintro e w1 ⟨b, l, rfl, hr, hu⟩
    have HB := hid hr
    have HU := hid hu
    clear hr hu HR
    go_wp2_with fail
    refine (clone_any b n l _ HB.out hn).mono ?_
    rintro e w2 ⟨b2, l2, rfl, hr, hu⟩
    have HB2 := hid (HB.out.upd hu)
    have HU2 := hid (HU.out.trans hu (by simp))
    clear hr hu HB HU
    go_wp2_with fail
    refine (fails34 b2 n l2 kb k _ (HU2.out.cell HK.out (by simp))).mono ?_
    rintro e w3 ⟨rfl, rfl⟩
    rw [D1.out]
    go_wp2_with fail
    go_loopg [6, 7] (n * 300 + n) (fun dd v6 v7 wr => ∃ (x : Option Addr) (m e s : Nat), v6 = .slice x m e ∧ v7 = .int .i64 (s : Int) ∧ k ≤ m ∧ m ≤ 200 ∧ s ≤ 200 ∧ Hid (s * 300 + m = dd) ∧ Hid (1 ≤ s ∨ m = k) ∧ Hid (LRow wr x m e) ∧ Hid (Upd [] w wr))
    case atStart => exact ⟨b, n, l, n, rfl, rfl, hkn, hn, hn, rfl, by show _ ∨ _; omega, HB2.out, HU2.out⟩
    case round =>
      clear HB2 HU2
      obtain ⟨x, m, e, s, rfl, rfl, hkm, hm, hs, Hd, Hs, HX, HU⟩ := hrel
      by_cases hs0 : 0 < s
      · go_wp2_with fail
        go_loopg [6, 8, 9] m (fun dd v6 v8 v9 wq => ∃ (y : Option Addr) (p e f : Nat) (cut : Bool), v6 = .slice y p e ∧ v8 = .bool cut ∧ v9 = .int .i64 (f : Int) ∧ k ≤ p ∧ p ≤ m ∧ f ≤ p ∧ Hid (p - f = dd) ∧ Hid (cut = true → p < m) ∧ Hid (cut = false → p = m) ∧ Hid (cut = false → s = 1 → f = 0 ∨ p ≤ k) ∧ Hid (LRow wq y p e) ∧ Hid (Upd [] w wq))
        case atStart => exact ⟨x, m, e, 0, false, rfl, rfl, rfl, hkm, Nat.le_refl _, Nat.zero_le _, rfl, fun h => (by cases h), fun _ => rfl, fun _ _ => .inl rfl, HX.out, HU.out⟩
        case round =>
          clear HX HU
          obtain ⟨y, p, e, f, cut, rfl, rfl, rfl, hkp, hpm, hfp, Hdd, Hc1, Hc2, Hc3, HY, HV⟩ := hrel
          by_cases hfm : f < p
          · obtain ⟨z, rfl⟩ := HY.out.isome (by omega)
            obtain ⟨t, ht⟩ : ∃ t : Nat, min (p : Int) ((f : Int) + (s : Int)) = (t : Int) := ⟨min p (f + s), by omega⟩
            have hmin := fun ats ty => min_nat ats ty .i64 .i64 (p : Int) ((f : Int) + (s : Int)) t ht
            have hft : f < t := by omega
            have htp : t ≤ p := by omega
            have HT := hid ht
            clear ht
            go_wp2_with fail
            refine (without_any z p e f t _ HY.out (by omega) htp (by omega)).mono ?_
            rintro e5 w5 ⟨u, ul, rfl, hr, hu⟩
            have HR5 := hid hr
            have HU5 := hid (HV.out.trans hu (by simp))
            have HY5 := hid (HY.out.upd hu)
            clear hr hu HY HV
            obtain ⟨g, hg⟩ : ∃ g, g = f + (p - t) := ⟨_, rfl⟩
            rw [← hg] at HR5 ⊢
            have HG := hid hg
            have hgp : g < p := by omega
            clear hg
            go_wp2_with fail
            refine (clone_any u g ul _ HR5.out (by omega)).mono ?_
            rintro e6 w6 ⟨u6', l6, rfl, hr, hu⟩
            have HR6 := hid (HR5.out.upd hu)
            have HY6 := hid (HY5.out.upd hu)
            have HU6 := hid (HU5.out.trans hu (by simp))
            clear hr hu HR5 HU5 HY5
            go_wp2_with fail
            refine (fails34 u6' g l6 kb k _ (HU6.out.cell HK.out (by simp))).mono ?_
            rintro e7 w7 ⟨rfl, rfl⟩
            by_cases hkg : k ≤ g
            · have d2 : decide (k ≤ g) = true := decide_eq_true hkg
              rw [d2]
              clear d2
              go_wp2_with fail
              go_roundg (g - f)
              case measure => have := Hdd.out; have := HG.out; omega
              case rel => exact ⟨u, g, ul, f, true, rfl, rfl, rfl, hkg, by omega, by have := HG.out; omega, rfl, fun _ => by omega, fun h => (by cases h), fun h => (by cases h), HR6.out, HU6.out⟩
            · have d2 : decide (k ≤ g) = false := decide_eq_false hkg
              rw [d2]
              clear d2
              go_wp2_with fail
              go_roundg (p - t)
              case measure => have := Hdd.out; omega
              case rel => exact ⟨_, p, e, t, cut, rfl, rfl, rfl, hkp, hpm, htp, rfl, Hc1.out, Hc2.out, fun _ h1 => .inr (by have := HG.out; have := HT.out; omega), HY6.out, HU6.out⟩
          · obtain ⟨q, hq⟩ : ∃ q : Nat, q = s / 2 := ⟨_, rfl⟩
            obtain ⟨mx, hmx⟩ : ∃ mx : Nat, max 1 (p : Int) = (mx : Int) := ⟨max 1 p, by omega⟩
            obtain ⟨s', hs'⟩ : ∃ s' : Nat, min ((s : Int) / 2) (mx : Int) = (s' : Int) := ⟨min q mx, by omega⟩
            have hmax := fun ats ty => max_nat ats ty .i64 .i64 1 (p : Int) mx hmx
            have hmin := fun ats ty => min_nat ats ty .i64 .i64 ((s : Int) / 2) (mx : Int) s' hs'
            have hss : 1 < s → 1 ≤ s' ∧ s' < s := fun h1 => by omega
            have HS := hid hss
            clear hq hmx hs' hss
            by_cases hs1 : s = 1
            · subst hs1
              cases cut with
              | true =>
                go_wp2_with fail
                go_roundg (1 * 300 + p)
                case measure => have := Hd.out; have := Hc1.out (by trivial); omega
                case rel => exact ⟨y, p, e, 1, rfl, rfl, hkp, by omega, by omega, rfl, .inl (by omega), HY.out, HV.out⟩
              | false =>
                have hpk : p = k := by rcases Hc3.out rfl rfl with h | h <;> omega
                subst hpk
                go_wp2_with fail
                refine (clone_any y p e _ HY.out (by omega)).mono ?_
                rintro e8 w8 ⟨b8, l8, rfl, hr, hu⟩
                have HU8 := hid (HV.out.trans hu (by simp))
                clear hr hu HV
                go_wp2_with fail
                go_ret2
                exact ⟨⟨_, _, rfl⟩, HU8.out⟩
            · have hs2 : 1 < s := by omega
              have he : ((s : Int) == 1) = false := by rw [beq_eq_false_iff_ne]; omega
              cases cut with
              | true =>
                go_wp2_with fail
                go_roundg (s' * 300 + p)
                case measure => have := Hd.out; have := HS.out hs2; omega
                case rel => exact ⟨y, p, e, s', rfl, rfl, hkp, by omega, by have := HS.out hs2; omega, rfl, .inl (HS.out hs2).1, HY.out, HV.out⟩
              | false =>
                go_wp2_with fail
                go_roundg (s' * 300 + p)
                case measure => have := Hd.out; have := HS.out hs2; omega
                case rel => exact ⟨y, p, e, s', rfl, rfl, hkp, by omega, by have := HS.out hs2; omega, rfl, .inl (HS.out hs2).1, HY.out, HV.out⟩
      · have hmk : m = k := by have := Hs.out; omega
        subst hmk
        go_wp2_with fail
        refine (clone_any x m e _ HX.out hm).mono ?_
        rintro e8 w8 ⟨b8, l8, rfl, hr, hu⟩
        have HU8 := hid (HU.out.trans hu (by simp))
        clear hr hu HU
        go_wp2_with fail
        go_ret2
        exact ⟨⟨_, _, rfl⟩, HU8.out⟩
  · rw [if_neg hkn, if_neg hkn]
    have D1 := hid (decide_eq_false hkn)
    go_enter Try.func32, Try.ntmps32
    go_wp2_with fail
    refine (clone_any a n c _ HR.out hn).mono ?_
    rintro e w1 ⟨b, l, rfl, hr, hu⟩
    have HB := hid hr
    have HU := hid hu
    clear hr hu HR
    go_wp2_with fail
    refine (clone_any b n l _ HB.out hn).mono ?_
    rintro e w2 ⟨b2, l2, rfl, hr, hu⟩
    have HU2 := hid (HU.out.trans hu (by simp))
    clear hr hu HB HU
    go_wp2_with fail
    refine (fails34 b2 n l2 kb k _ (HU2.out.cell HK.out (by simp))).mono ?_
    rintro e w3 ⟨rfl, rfl⟩
    rw [D1.out]
    go_wp2_with fail
    go_ret2
    exact ⟨⟨_, _, rfl⟩, HU2.out⟩
theorem fails33k (a : Option Addr) (n c k : Nat) (w : World) (hk : k = 1) :
    Calls Try.prog 33 #[.slice a n c] w fun e w' => e = .returned (.bool (decide (k ≤ n))) ∧ w' = w := by subst hk; exact fails33 a n c w

set_option maxHeartbeats 4000000 in
set_option maxRecDepth 100000 in
theorem list33 (a : Option Addr) (n c : Nat) (k : Nat) (w : World) (hk : k = 1) (h : LRow w a n c) (hn : n ≤ 200) :
    Calls Try.prog 32 #[.slice a n c, .func (.func 33) #[] #[]] w fun e w' =>
      (∃ x d, e = .returned (.tuple #[.slice x (if k ≤ n then k else 0) d, .int .i64 (if k ≤ n then 0 else 4)])) ∧ Upd [] w w' := by
  have HK := hid hk
  have HR := hid h
  clear hk h
  by_cases hkn : k ≤ n
  · rw [if_pos hkn, if_pos hkn]
    have d1 : decide (k ≤ n) = true := decide_eq_true hkn
    have D1 := hid d1
    clear d1
    go_enter Try.func32, Try.ntmps32
    go_wp2_with fail
    refine (clone_any a n c _ HR.out hn).mono ?_
    rintro e w1 ⟨b, l, rfl, hr, hu⟩
    have HB := hid hr
    have HU := hid hu
    clear hr hu HR
    go_wp2_with fail
    refine (clone_any b n l _ HB.out hn).mono ?_
    rintro e w2 ⟨b2, l2, rfl, hr, hu⟩
    have HB2 := hid (HB.out.upd hu)
    have HU2 := hid (HU.out.trans hu (by simp))
    clear hr hu HB HU
    go_wp2_with fail
    refine (fails33k b2 n l2 k _ HK.out).mono ?_
    rintro e w3 ⟨rfl, rfl⟩
    rw [D1.out]
    go_wp2_with fail
    go_loopg [6, 7] (n * 300 + n) (fun dd v6 v7 wr => ∃ (x : Option Addr) (m e s : Nat), v6 = .slice x m e ∧ v7 = .int .i64 (s : Int) ∧ k ≤ m ∧ m ≤ 200 ∧ s ≤ 200 ∧ Hid (s * 300 + m = dd) ∧ Hid (1 ≤ s ∨ m = k) ∧ Hid (LRow wr x m e) ∧ Hid (Upd [] w wr))
    case atStart => exact ⟨b, n, l, n, rfl, rfl, hkn, hn, hn, rfl, by show _ ∨ _; omega, HB2.out, HU2.out⟩
    case round =>
      clear HB2 HU2
      obtain ⟨x, m, e, s, rfl, rfl, hkm, hm, hs, Hd, Hs, HX, HU⟩ := hrel
      by_cases hs0 : 0 < s
      · go_wp2_with fail
        go_loopg [6, 8, 9] m (fun dd v6 v8 v9 wq => ∃ (y : Option Addr) (p e f : Nat) (cut : Bool), v6 = .slice y p e ∧ v8 = .bool cut ∧ v9 = .int .i64 (f : Int) ∧ k ≤ p ∧ p ≤ m ∧ f ≤ p ∧ Hid (p - f = dd) ∧ Hid (cut = true → p < m) ∧ Hid (cut = false → p = m) ∧ Hid (cut = false → s = 1 → f = 0 ∨ p ≤ k) ∧ Hid (LRow wq y p e) ∧ Hid (Upd [] w wq))
        case atStart => exact ⟨x, m, e, 0, false, rfl, rfl, rfl, hkm, Nat.le_refl _, Nat.zero_le _, rfl, fun h => (by cases h), fun _ => rfl, fun _ _ => .inl rfl, HX.out, HU.out⟩
        case round =>
          clear HX HU
          obtain ⟨y, p, e, f, cut, rfl, rfl, rfl, hkp, hpm, hfp, Hdd, Hc1, Hc2, Hc3, HY, HV⟩ := hrel
          by_cases hfm : f < p
          · obtain ⟨z, rfl⟩ := HY.out.isome (by omega)
            obtain ⟨t, ht⟩ : ∃ t : Nat, min (p : Int) ((f : Int) + (s : Int)) = (t : Int) := ⟨min p (f + s), by omega⟩
            have hmin := fun ats ty => min_nat ats ty .i64 .i64 (p : Int) ((f : Int) + (s : Int)) t ht
            have hft : f < t := by omega
            have htp : t ≤ p := by omega
            have HT := hid ht
            clear ht
            go_wp2_with fail
            refine (without_any z p e f t _ HY.out (by omega) htp (by omega)).mono ?_
            rintro e5 w5 ⟨u, ul, rfl, hr, hu⟩
            have HR5 := hid hr
            have HU5 := hid (HV.out.trans hu (by simp))
            have HY5 := hid (HY.out.upd hu)
            clear hr hu HY HV
            obtain ⟨g, hg⟩ : ∃ g, g = f + (p - t) := ⟨_, rfl⟩
            rw [← hg] at HR5 ⊢
            have HG := hid hg
            have hgp : g < p := by omega
            clear hg
            go_wp2_with fail
            refine (clone_any u g ul _ HR5.out (by omega)).mono ?_
            rintro e6 w6 ⟨u6', l6, rfl, hr, hu⟩
            have HR6 := hid (HR5.out.upd hu)
            have HY6 := hid (HY5.out.upd hu)
            have HU6 := hid (HU5.out.trans hu (by simp))
            clear hr hu HR5 HU5 HY5
            go_wp2_with fail
            refine (fails33k u6' g l6 k _ HK.out).mono ?_
            rintro e7 w7 ⟨rfl, rfl⟩
            by_cases hkg : k ≤ g
            · have d2 : decide (k ≤ g) = true := decide_eq_true hkg
              rw [d2]
              clear d2
              go_wp2_with fail
              go_roundg (g - f)
              case measure => have := Hdd.out; have := HG.out; omega
              case rel => exact ⟨u, g, ul, f, true, rfl, rfl, rfl, hkg, by omega, by have := HG.out; omega, rfl, fun _ => by omega, fun h => (by cases h), fun h => (by cases h), HR6.out, HU6.out⟩
            · have d2 : decide (k ≤ g) = false := decide_eq_false hkg
              rw [d2]
              clear d2
              go_wp2_with fail
              go_roundg (p - t)
              case measure => have := Hdd.out; omega
              case rel => exact ⟨_, p, e, t, cut, rfl, rfl, rfl, hkp, hpm, htp, rfl, Hc1.out, Hc2.out, fun _ h1 => .inr (by have := HG.out; have := HT.out; omega), HY6.out, HU6.out⟩
          · obtain ⟨q, hq⟩ : ∃ q : Nat, q = s / 2 := ⟨_, rfl⟩
            obtain ⟨mx, hmx⟩ : ∃ mx : Nat, max 1 (p : Int) = (mx : Int) := ⟨max 1 p, by omega⟩
            obtain ⟨s', hs'⟩ : ∃ s' : Nat, min ((s : Int) / 2) (mx : Int) = (s' : Int) := ⟨min q mx, by omega⟩
            have hmax := fun ats ty => max_nat ats ty .i64 .i64 1 (p : Int) mx hmx
            have hmin := fun ats ty => min_nat ats ty .i64 .i64 ((s : Int) / 2) (mx : Int) s' hs'
            have hss : 1 < s → 1 ≤ s' ∧ s' < s := fun h1 => by omega
            have HS := hid hss
            clear hq hmx hs' hss
            by_cases hs1 : s = 1
            · subst hs1
              cases cut with
              | true =>
                go_wp2_with fail
                go_roundg (1 * 300 + p)
                case measure => have := Hd.out; have := Hc1.out (by trivial); omega
                case rel => exact ⟨y, p, e, 1, rfl, rfl, hkp, by omega, by omega, rfl, .inl (by omega), HY.out, HV.out⟩
              | false =>
                have hpk : p = k := by rcases Hc3.out rfl rfl with h | h <;> omega
                subst hpk
                go_wp2_with fail
                refine (clone_any y p e _ HY.out (by omega)).mono ?_
                rintro e8 w8 ⟨b8, l8, rfl, hr, hu⟩
                have HU8 := hid (HV.out.trans hu (by simp))
                clear hr hu HV
                go_wp2_with fail
                go_ret2
                exact ⟨⟨_, _, rfl⟩, HU8.out⟩
            · have hs2 : 1 < s := by omega
              have he : ((s : Int) == 1) = false := by rw [beq_eq_false_iff_ne]; omega
              cases cut with
              | true =>
                go_wp2_with fail
                go_roundg (s' * 300 + p)
                case measure => have := Hd.out; have := HS.out hs2; omega
                case rel => exact ⟨y, p, e, s', rfl, rfl, hkp, by omega, by have := HS.out hs2; omega, rfl, .inl (HS.out hs2).1, HY.out, HV.out⟩
              | false =>
                go_wp2_with fail
                go_roundg (s' * 300 + p)
                case measure => have := Hd.out; have := HS.out hs2; omega
                case rel => exact ⟨y, p, e, s', rfl, rfl, hkp, by omega, by have := HS.out hs2; omega, rfl, .inl (HS.out hs2).1, HY.out, HV.out⟩
      · have hmk : m = k := by have := Hs.out; omega
        subst hmk
        go_wp2_with fail
        refine (clone_any x m e _ HX.out hm).mono ?_
        rintro e8 w8 ⟨b8, l8, rfl, hr, hu⟩
        have HU8 := hid (HU.out.trans hu (by simp))
        clear hr hu HU
        go_wp2_with fail
        go_ret2
        exact ⟨⟨_, _, rfl⟩, HU8.out⟩
  · rw [if_neg hkn, if_neg hkn]
    have D1 := hid (decide_eq_false hkn)
    go_enter Try.func32, Try.ntmps32
    go_wp2_with fail
    refine (clone_any a n c _ HR.out hn).mono ?_
    rintro e w1 ⟨b, l, rfl, hr, hu⟩
    have HB := hid hr
    have HU := hid hu
    clear hr hu HR
    go_wp2_with fail
    refine (clone_any b n l _ HB.out hn).mono ?_
    rintro e w2 ⟨b2, l2, rfl, hr, hu⟩
    have HU2 := hid (HU.out.trans hu (by simp))
    clear hr hu HB HU
    go_wp2_with fail
    refine (fails33k b2 n l2 k _ HK.out).mono ?_
    rintro e w3 ⟨rfl, rfl⟩
    rw [D1.out]
    go_wp2_with fail
    go_ret2
    exact ⟨⟨_, _, rfl⟩, HU2.out⟩
end Go.Proofs.Ytmdhhembkmkfdaa.Sh
