/- The walk of shrink.List with the functions that ShrinkAgain hands in. (printed by gen_sd.py) -/
import Derived.Test.YtnikkakeiajmgaaSc
namespace Go.Proofs.Ytnikkakeiajmgaa.Sh
open Go Go.RowKit Go.Proofs.Ytnikkakeiajmgaa Go.Proofs.Ytnikkakeiajmgaa.K Go.Proofs.Ytnikkakeiajmgaa.M Go.Proofs.Ytnikkakeiajmgaa.O Go.Proofs.Ytnikkakeiajmgaa.R Go.Proofs.Ytnikkakeiajmgaa.So Go.Proofs.Ytnikkakeiajmgaa.Pa

set_option maxHeartbeats 8000000 in
set_option maxRecDepth 100000 in
theorem list25 (a : Option Addr) (n c : Nat) (ls : List Int) (w : World) (h : LR w a n c ls) (hn : n ≤ 200) :
    Calls Try.prog 24 #[.slice a n c, .func (.func 25) #[] #[]] w fun e w' =>
      ((pPos ls = false ∧ e = .returned (.tuple #[.slice none 0 0, .int .i64 4])) ∨ (pPos ls = true ∧ ∃ v, e = .returned (.tuple #[v, .int .i64 0]) ∧ ∃ xs, w'.ownsRow w.heap.size 3 1 v xs.length (ints xs) ∧ xs.length ≤ 200 ∧ pPos xs = true ∧ Least pPos xs ∧ (Tight pPos ls → xs = ls))) ∧ Upd [] w w' := by

  have HR := hid h
  have HNL := hid h.2.1
  clear h
  obtain ⟨B, hB⟩ : ∃ B, B = w.heap.size := ⟨_, rfl⟩
  have HB := hid hB
  rw [← hB]
  clear hB
  go_enter Try.func24, Try.ntmps24
  go_wp2_with fail
  refine (clone_any a n c ls _ HR.out (by omega)).mono ?_
  rintro e w1 ⟨v1, rfl, hr, hu⟩
  obtain ⟨b, l, rfl, hr0⟩ := LR.of_own hr
  have HB1 := hid hr0
  have HU := hid hu
  clear hr hr0 hu HR
  go_wp2_with fail
  refine (clone_any b n l ls _ HB1.out (by omega)).mono ?_
  rintro e w2 ⟨v2, rfl, hr, hu⟩
  obtain ⟨b2, l2, rfl, hr0⟩ := LR.of_own hr
  have HB2 := hid (HB1.out.upd hu)
  have HU2 := hid (HU.out.trans hu (by simp))
  have CL := hid (clos25 b2 n l2 ls w2 hr0)
  clear hr hr0 hu HB1 HU
  go_wp2_with fail
  refine CL.out.mono ?_
  rintro e w3 ⟨rfl, hu⟩
  have HB3 := hid (HB2.out.upd hu)
  have HU3 := hid (HU2.out.trans hu (by simp))
  clear hu HB2 HU2 CL
  obtain ⟨q, hq⟩ : ∃ q, q = pPos ls := ⟨_, rfl⟩
  rw [← hq]
  have HQ := hid hq
  clear hq
  cases q with
  | false =>
    go_wp2_with fail
    go_ret2
    exact ⟨.inl ⟨HQ.out.symm, rfl⟩, HU3.out⟩
  | true =>
    go_wp2_with fail
    go_loopg [6, 7] (n * 300 + n) (fun dd v6 v7 wr => ∃ (x : Option Addr) (m e s : Nat) (xs : List Int), v6 = .slice x m e ∧ v7 = .int .i64 (s : Int) ∧ m ≤ 200 ∧ s ≤ 200 ∧ Hid (s * 300 + m = dd) ∧ Hid (1 ≤ s ∨ m = 0) ∧ Hid (LR wr x m e xs) ∧ Hid (pPos xs = true) ∧ Hid (Tight pPos ls → xs = ls) ∧ Hid (Upd [] w wr))
    case atStart => exact ⟨b, n, l, n, ls, rfl, rfl, hn, hn, hid rfl, hid (by omega), HB3, hid HQ.out.symm, hid (fun _ => rfl), HU3⟩
    case round =>
      clear HB3 HU3
      obtain ⟨x, m, e, s, xs, rfl, rfl, hm, hs, Hd, Hs, HX, HP, HT, HU⟩ := hrel
      by_cases hs0 : 0 < s
      · go_wp2_with fail
        go_loopg [6, 8, 9] m (fun dd v6 v8 v9 wq => ∃ (y : Option Addr) (p e f : Nat) (cut : Bool) (ys : List Int), v6 = .slice y p e ∧ v8 = .bool cut ∧ v9 = .int .i64 (f : Int) ∧ p ≤ m ∧ f ≤ p ∧ Hid (p - f = dd) ∧ Hid (cut = true → p < m) ∧ Hid (cut = false → p = m) ∧ Hid (cut = false → s = 1 → ∀ i, i < f → pPos (ys.eraseIdx i) = false) ∧ Hid (LR wq y p e ys) ∧ Hid (pPos ys = true) ∧ Hid (Tight pPos ls → ys = ls) ∧ Hid (Upd [] w wq))
        case atStart => exact ⟨x, m, e, 0, false, xs, rfl, rfl, rfl, Nat.le_refl _, Nat.zero_le _, hid rfl, hid (fun h => (by cases h)), hid (fun _ => rfl), hid (fun _ _ i hi => by omega), HX, HP, HT, HU⟩
        case round =>
          clear HX HU HP HT
          obtain ⟨y, p, e, f, cut, ys, rfl, rfl, rfl, hpm, hfp, Hdd, Hc1, Hc2, Hc3, HY, HP, HT, HV⟩ := hrel
          by_cases hfm : f < p
          · obtain ⟨z, rfl⟩ := HY.out.isome (by omega)
            obtain ⟨t, ht⟩ : ∃ t : Nat, min (p : Int) ((f : Int) + (s : Int)) = (t : Int) := ⟨min p (f + s), by omega⟩
            have hmin := fun ats ty => min_nat ats ty .i64 .i64 (p : Int) ((f : Int) + (s : Int)) t ht
            have hft : f < t := by omega
            have htp : t ≤ p := by omega
            have HTT := hid ht
            clear ht
            go_wp2_with fail
            refine (without_any z p e f t ys _ HY.out (by omega) htp (by omega)).mono ?_
            rintro e5 w5 ⟨u, ul, rfl, hr, hu⟩
            have HR5 := hid hr
            have HU5 := hid (HV.out.trans hu (by simp))
            have HY5 := hid (HY.out.upd hu)
            clear hr hu HY HV
            obtain ⟨g, hg⟩ : ∃ g, g = f + (p - t) := ⟨_, rfl⟩
            rw [← hg] at HR5 ⊢
            have HG := hid hg
            have hgp : g < p := by omega
            clear hg
            obtain ⟨gs, hgs⟩ : ∃ gs, gs = ys.take f ++ ys.drop t := ⟨_, rfl⟩
            rw [← hgs] at HR5
            have HGS := hid hgs
            clear hgs
            go_wp2_with fail
            refine (clone_any u g ul gs _ HR5.out (by omega)).mono ?_
            rintro e6 w6 ⟨v6', rfl, hr, hu⟩
            obtain ⟨u6', l6, rfl, hr0⟩ := LR.of_own hr
            have HR6 := hid (HR5.out.upd hu)
            have HY6 := hid (HY5.out.upd hu)
            have HU6 := hid (HU5.out.trans hu (by simp))
            have CL := hid (clos25 u6' g l6 gs w6 hr0)
            clear hr hr0 hu HR5 HU5 HY5
            go_wp2_with fail
            refine CL.out.mono ?_
            rintro e7 w7 ⟨rfl, hu⟩
            have HR7 := hid (HR6.out.upd hu)
            have HY7 := hid (HY6.out.upd hu)
            have HU7 := hid (HU6.out.trans hu (by simp))
            clear hu HR6 HU6 HY6 CL
            obtain ⟨q, hq⟩ : ∃ q, q = pPos gs := ⟨_, rfl⟩
            rw [← hq]
            have HQ2 := hid hq
            clear hq
            cases q with
            | true =>
              have TT := hid (show Tight pPos ls → gs = ls from fun ht => by
                have e1 := HT.out ht
                have h1 := ht f t hft (by rw [← e1, HY7.out.2.1]; exact htp)
                rw [← e1, ← HGS.out, ← HQ2.out] at h1
                cases h1)
              go_wp2_with fail
              go_roundg (g - f)
              case measure => have := Hdd.out; have := HG.out; omega
              case rel => exact ⟨u, g, ul, f, true, gs, rfl, rfl, rfl, by omega, by have := HG.out; omega, hid rfl, hid (fun _ => by omega), hid (fun h => (by cases h)), hid (fun h => (by cases h)), HR7, hid HQ2.out.symm, TT, HU7⟩
            | false =>
              have C3 := hid (show cut = false → s = 1 → ∀ i, i < t → pPos (ys.eraseIdx i) = false from fun hc h1 i hi => by
                by_cases e : i < f
                · exact Hc3.out hc h1 i e
                · have e2 : t = f + 1 := by have := HTT.out; omega
                  have e3 : i = f := by omega
                  rw [e3, ← erase_eq, ← e2, ← HGS.out, ← HQ2.out])
              go_wp2_with fail
              go_roundg (p - t)
              case measure => have := Hdd.out; omega
              case rel => exact ⟨_, p, e, t, cut, ys, rfl, rfl, rfl, hpm, htp, hid rfl, Hc1, Hc2, C3, HY7, HP, HT, HU7⟩
          · obtain ⟨q, hq⟩ : ∃ q : Nat, q = s / 2 := ⟨_, rfl⟩
            obtain ⟨mx, hmx⟩ : ∃ mx : Nat, max 1 (p : Int) = (mx : Int) := ⟨max 1 p, by omega⟩
            obtain ⟨s', hs'⟩ : ∃ s' : Nat, min ((s : Int) / 2) (mx : Int) = (s' : Int) := ⟨min q mx, by omega⟩
            have hmax := fun ats ty => max_nat ats ty .i64 .i64 1 (p : Int) mx hmx
            have hmin := fun ats ty => min_nat ats ty .i64 .i64 ((s : Int) / 2) (mx : Int) s' hs'
            have hss : 1 < s → 1 ≤ s' ∧ s' < s := fun h1 => by omega
            have HS := hid hss
            clear hq hmx hs' hss
            by_cases hs1 : s = 1
            · subst hs1
              cases cut with
              | true =>
                go_wp2_with fail
                go_roundg (1 * 300 + p)
                case measure => have := Hd.out; have := Hc1.out (by trivial); omega
                case rel => exact ⟨y, p, e, 1, ys, rfl, rfl, by omega, by omega, hid rfl, hid (.inl (by omega)), HY, HP, HT, HV⟩
              | false =>
                have LE := hid (show Least pPos ys from fun i hi => Hc3.out rfl rfl i (by rw [HY.out.2.1] at hi; omega))
                go_wp2_with fail
                refine (clone_any y p e ys _ HY.out (by omega)).mono ?_
                rintro e8 w8 ⟨v8, rfl, hr, hu⟩
                have HU8 := hid (HV.out.trans hu (by simp))
                have O8 := hid (own_mono hr (show B ≤ _ by rw [HB.out]; exact HV.out.size))
                have YL := hid HY.out.2.1
                clear hr hu HV HY
                go_wp2_with fail
                go_ret2
                exact ⟨.inr ⟨HQ.out.symm, _, rfl, ys, by rw [YL.out]; exact O8.out, by rw [YL.out]; omega, HP.out, LE.out, HT.out⟩, HU8.out⟩
            · have hs2 : 1 < s := by omega
              have he : ((s : Int) == 1) = false := by rw [beq_eq_false_iff_ne]; omega
              cases cut with
              | true =>
                go_wp2_with fail
                go_roundg (s' * 300 + p)
                case measure => have := Hd.out; have := HS.out hs2; omega
                case rel => exact ⟨y, p, e, s', ys, rfl, rfl, by omega, by have := HS.out hs2; omega, hid rfl, hid (.inl (HS.out hs2).1), HY, HP, HT, HV⟩
              | false =>
                go_wp2_with fail
                go_roundg (s' * 300 + p)
                case measure => have := Hd.out; have := HS.out hs2; omega
                case rel => exact ⟨y, p, e, s', ys, rfl, rfl, by omega, by have := HS.out hs2; omega, hid rfl, hid (.inl (HS.out hs2).1), HY, HP, HT, HV⟩
      · have hm0 : m = 0 := by have := Hs.out; omega
        have LE := hid (show Least pPos xs from fun i hi => by rw [HX.out.2.1, hm0] at hi; omega)
        clear hm0
        go_wp2_with fail
        refine (clone_any x m e xs _ HX.out (by omega)).mono ?_
        rintro e8 w8 ⟨v8, rfl, hr, hu⟩
        have HU8 := hid (HU.out.trans hu (by simp))
        have O8 := hid (own_mono hr (show B ≤ _ by rw [HB.out]; exact HU.out.size))
        have YL := hid HX.out.2.1
        clear hr hu HU HX
        go_wp2_with fail
        go_ret2
        exact ⟨.inr ⟨HQ.out.symm, _, rfl, xs, by rw [YL.out]; exact O8.out, by rw [YL.out]; omega, HP.out, LE.out, HT.out⟩, HU8.out⟩

set_option maxHeartbeats 8000000 in
set_option maxRecDepth 100000 in
theorem list26 (a : Option Addr) (n c : Nat) (ls : List Int) (X : Nat) (an : Option Addr) (nn nc : Nat) (need : List Int) (w : World) (hX : w.cell? ⟨X, 0, none⟩ = some (.slice an nn nc)) (hnd : LR w an nn nc need) (h : LR w a n c ls) (hn : n ≤ 200) :
    Calls Try.prog 24 #[.slice a n c, .func (.func 26) #[] #[.pointer (some ⟨X, 0, none⟩)]] w fun e w' =>
      (((pAll need) ls = false ∧ e = .returned (.tuple #[.slice none 0 0, .int .i64 4])) ∨ ((pAll need) ls = true ∧ ∃ v, e = .returned (.tuple #[v, .int .i64 0]) ∧ ∃ xs, w'.ownsRow w.heap.size 3 1 v xs.length (ints xs) ∧ xs.length ≤ 200 ∧ (pAll need) xs = true ∧ Least (pAll need) xs ∧ (Tight (pAll need) ls → xs = ls))) ∧ Upd [] w w' := by
  have HXC := hid hX
  have HND := hid hnd
  clear hX hnd
  have HR := hid h
  have HNL := hid h.2.1
  clear h
  obtain ⟨B, hB⟩ : ∃ B, B = w.heap.size := ⟨_, rfl⟩
  have HB := hid hB
  rw [← hB]
  clear hB
  go_enter Try.func24, Try.ntmps24
  go_wp2_with fail
  refine (clone_any a n c ls _ HR.out (by omega)).mono ?_
  rintro e w1 ⟨v1, rfl, hr, hu⟩
  obtain ⟨b, l, rfl, hr0⟩ := LR.of_own hr
  have HB1 := hid hr0
  have HU := hid hu
  clear hr hr0 hu HR
  go_wp2_with fail
  refine (clone_any b n l ls _ HB1.out (by omega)).mono ?_
  rintro e w2 ⟨v2, rfl, hr, hu⟩
  obtain ⟨b2, l2, rfl, hr0⟩ := LR.of_own hr
  have HB2 := hid (HB1.out.upd hu)
  have HU2 := hid (HU.out.trans hu (by simp))
  have CL := hid (clos26 X an nn nc need b2 n l2 ls w2 ((HU2.out).cell HXC.out (by simp)) (hr0) (HND.out.upd (HU2.out)))
  clear hr hr0 hu HB1 HU
  go_wp2_with fail
  refine CL.out.mono ?_
  rintro e w3 ⟨rfl, hu⟩
  have HB3 := hid (HB2.out.upd hu)
  have HU3 := hid (HU2.out.trans hu (by simp))
  clear hu HB2 HU2 CL
  obtain ⟨q, hq⟩ : ∃ q, q = (pAll need) ls := ⟨_, rfl⟩
  rw [← hq]
  have HQ := hid hq
  clear hq
  cases q with
  | false =>
    go_wp2_with fail
    go_ret2
    exact ⟨.inl ⟨HQ.out.symm, rfl⟩, HU3.out⟩
  | true =>
    go_wp2_with fail
    go_loopg [6, 7] (n * 300 + n) (fun dd v6 v7 wr => ∃ (x : Option Addr) (m e s : Nat) (xs : List Int), v6 = .slice x m e ∧ v7 = .int .i64 (s : Int) ∧ m ≤ 200 ∧ s ≤ 200 ∧ Hid (s * 300 + m = dd) ∧ Hid (1 ≤ s ∨ m = 0) ∧ Hid (LR wr x m e xs) ∧ Hid ((pAll need) xs = true) ∧ Hid (Tight (pAll need) ls → xs = ls) ∧ Hid (Upd [] w wr))
    case atStart => exact ⟨b, n, l, n, ls, rfl, rfl, hn, hn, hid rfl, hid (by omega), HB3, hid HQ.out.symm, hid (fun _ => rfl), HU3⟩
    case round =>
      clear HB3 HU3
      obtain ⟨x, m, e, s, xs, rfl, rfl, hm, hs, Hd, Hs, HX, HP, HT, HU⟩ := hrel
      by_cases hs0 : 0 < s
      · go_wp2_with fail
        go_loopg [6, 8, 9] m (fun dd v6 v8 v9 wq => ∃ (y : Option Addr) (p e f : Nat) (cut : Bool) (ys : List Int), v6 = .slice y p e ∧ v8 = .bool cut ∧ v9 = .int .i64 (f : Int) ∧ p ≤ m ∧ f ≤ p ∧ Hid (p - f = dd) ∧ Hid (cut = true → p < m) ∧ Hid (cut = false → p = m) ∧ Hid (cut = false → s = 1 → ∀ i, i < f → (pAll need) (ys.eraseIdx i) = false) ∧ Hid (LR wq y p e ys) ∧ Hid ((pAll need) ys = true) ∧ Hid (Tight (pAll need) ls → ys = ls) ∧ Hid (Upd [] w wq))
        case atStart => exact ⟨x, m, e, 0, false, xs, rfl, rfl, rfl, Nat.le_refl _, Nat.zero_le _, hid rfl, hid (fun h => (by cases h)), hid (fun _ => rfl), hid (fun _ _ i hi => by omega), HX, HP, HT, HU⟩
        case round =>
          clear HX HU HP HT
          obtain ⟨y, p, e, f, cut, ys, rfl, rfl, rfl, hpm, hfp, Hdd, Hc1, Hc2, Hc3, HY, HP, HT, HV⟩ := hrel
          by_cases hfm : f < p
          · obtain ⟨z, rfl⟩ := HY.out.isome (by omega)
            obtain ⟨t, ht⟩ : ∃ t : Nat, min (p : Int) ((f : Int) + (s : Int)) = (t : Int) := ⟨min p (f + s), by omega⟩
            have hmin := fun ats ty => min_nat ats ty .i64 .i64 (p : Int) ((f : Int) + (s : Int)) t ht
            have hft : f < t := by omega
            have htp : t ≤ p := by omega
            have HTT := hid ht
            clear ht
            go_wp2_with fail
            refine (without_any z p e f t ys _ HY.out (by omega) htp (by omega)).mono ?_
            rintro e5 w5 ⟨u, ul, rfl, hr, hu⟩
            have HR5 := hid hr
            have HU5 := hid (HV.out.trans hu (by simp))
            have HY5 := hid (HY.out.upd hu)
            clear hr hu HY HV
            obtain ⟨g, hg⟩ : ∃ g, g = f + (p - t) := ⟨_, rfl⟩
            rw [← hg] at HR5 ⊢
            have HG := hid hg
            have hgp : g < p := by omega
            clear hg
            obtain ⟨gs, hgs⟩ : ∃ gs, gs = ys.take f ++ ys.drop t := ⟨_, rfl⟩
            rw [← hgs] at HR5
            have HGS := hid hgs
            clear hgs
            go_wp2_with fail
            refine (clone_any u g ul gs _ HR5.out (by omega)).mono ?_
            rintro e6 w6 ⟨v6', rfl, hr, hu⟩
            obtain ⟨u6', l6, rfl, hr0⟩ := LR.of_own hr
            have HR6 := hid (HR5.out.upd hu)
            have HY6 := hid (HY5.out.upd hu)
            have HU6 := hid (HU5.out.trans hu (by simp))
            have CL := hid (clos26 X an nn nc need u6' g l6 gs w6 ((HU6.out).cell HXC.out (by simp)) (hr0) (HND.out.upd (HU6.out)))
            clear hr hr0 hu HR5 HU5 HY5
            go_wp2_with fail
            refine CL.out.mono ?_
            rintro e7 w7 ⟨rfl, hu⟩
            have HR7 := hid (HR6.out.upd hu)
            have HY7 := hid (HY6.out.upd hu)
            have HU7 := hid (HU6.out.trans hu (by simp))
            clear hu HR6 HU6 HY6 CL
            obtain ⟨q, hq⟩ : ∃ q, q = (pAll need) gs := ⟨_, rfl⟩
            rw [← hq]
            have HQ2 := hid hq
            clear hq
            cases q with
            | true =>
              have TT := hid (show Tight (pAll need) ls → gs = ls from fun ht => by
                have e1 := HT.out ht
                have h1 := ht f t hft (by rw [← e1, HY7.out.2.1]; exact htp)
                rw [← e1, ← HGS.out, ← HQ2.out] at h1
                cases h1)
              go_wp2_with fail
              go_roundg (g - f)
              case measure => have := Hdd.out; have := HG.out; omega
              case rel => exact ⟨u, g, ul, f, true, gs, rfl, rfl, rfl, by omega, by have := HG.out; omega, hid rfl, hid (fun _ => by omega), hid (fun h => (by cases h)), hid (fun h => (by cases h)), HR7, hid HQ2.out.symm, TT, HU7⟩
            | false =>
              have C3 := hid (show cut = false → s = 1 → ∀ i, i < t → (pAll need) (ys.eraseIdx i) = false from fun hc h1 i hi => by
                by_cases e : i < f
                · exact Hc3.out hc h1 i e
                · have e2 : t = f + 1 := by have := HTT.out; omega
                  have e3 : i = f := by omega
                  rw [e3, ← erase_eq, ← e2, ← HGS.out, ← HQ2.out])
              go_wp2_with fail
              go_roundg (p - t)
              case measure => have := Hdd.out; omega
              case rel => exact ⟨_, p, e, t, cut, ys, rfl, rfl, rfl, hpm, htp, hid rfl, Hc1, Hc2, C3, HY7, HP, HT, HU7⟩
          · obtain ⟨q, hq⟩ : ∃ q : Nat, q = s / 2 := ⟨_, rfl⟩
            obtain ⟨mx, hmx⟩ : ∃ mx : Nat, max 1 (p : Int) = (mx : Int) := ⟨max 1 p, by omega⟩
            obtain ⟨s', hs'⟩ : ∃ s' : Nat, min ((s : Int) / 2) (mx : Int) = (s' : Int) := ⟨min q mx, by omega⟩
            have hmax := fun ats ty => max_nat ats ty .i64 .i64 1 (p : Int) mx hmx
            have hmin := fun ats ty => min_nat ats ty .i64 .i64 ((s : Int) / 2) (mx : Int) s' hs'
            have hss : 1 < s → 1 ≤ s' ∧ s' < s := fun h1 => by omega
            have HS := hid hss
            clear hq hmx hs' hss
            by_cases hs1 : s = 1
            · subst hs1
              cases cut with
              | true =>
                go_wp2_with fail
                go_roundg (1 * 300 + p)
                case measure => have := Hd.out; have := Hc1.out (by trivial); omega
                case rel => exact ⟨y, p, e, 1, ys, rfl, rfl, by omega, by omega, hid rfl, hid (.inl (by omega)), HY, HP, HT, HV⟩
              | false =>
                have LE := hid (show Least (pAll need) ys from fun i hi => Hc3.out rfl rfl i (by rw [HY.out.2.1] at hi; omega))
                go_wp2_with fail
                refine (clone_any y p e ys _ HY.out (by omega)).mono ?_
                rintro e8 w8 ⟨v8, rfl, hr, hu⟩
                have HU8 := hid (HV.out.trans hu (by simp))
                have O8 := hid (own_mono hr (show B ≤ _ by rw [HB.out]; exact HV.out.size))
                have YL := hid HY.out.2.1
                clear hr hu HV HY
                go_wp2_with fail
                go_ret2
                exact ⟨.inr ⟨HQ.out.symm, _, rfl, ys, by rw [YL.out]; exact O8.out, by rw [YL.out]; omega, HP.out, LE.out, HT.out⟩, HU8.out⟩
            · have hs2 : 1 < s := by omega
              have he : ((s : Int) == 1) = false := by rw [beq_eq_false_iff_ne]; omega
              cases cut with
              | true =>
                go_wp2_with fail
                go_roundg (s' * 300 + p)
                case measure => have := Hd.out; have := HS.out hs2; omega
                case rel => exact ⟨y, p, e, s', ys, rfl, rfl, by omega, by have := HS.out hs2; omega, hid rfl, hid (.inl (HS.out hs2).1), HY, HP, HT, HV⟩
              | false =>
                go_wp2_with fail
                go_roundg (s' * 300 + p)
                case measure => have := Hd.out; have := HS.out hs2; omega
                case rel => exact ⟨y, p, e, s', ys, rfl, rfl, by omega, by have := HS.out hs2; omega, hid rfl, hid (.inl (HS.out hs2).1), HY, HP, HT, HV⟩
      · have hm0 : m = 0 := by have := Hs.out; omega
        have LE := hid (show Least (pAll need) xs from fun i hi => by rw [HX.out.2.1, hm0] at hi; omega)
        clear hm0
        go_wp2_with fail
        refine (clone_any x m e xs _ HX.out (by omega)).mono ?_
        rintro e8 w8 ⟨v8, rfl, hr, hu⟩
        have HU8 := hid (HU.out.trans hu (by simp))
        have O8 := hid (own_mono hr (show B ≤ _ by rw [HB.out]; exact HU.out.size))
        have YL := hid HX.out.2.1
        clear hr hu HU HX
        go_wp2_with fail
        go_ret2
        exact ⟨.inr ⟨HQ.out.symm, _, rfl, xs, by rw [YL.out]; exact O8.out, by rw [YL.out]; omega, HP.out, LE.out, HT.out⟩, HU8.out⟩
end Go.Proofs.Ytnikkakeiajmgaa.Sh
