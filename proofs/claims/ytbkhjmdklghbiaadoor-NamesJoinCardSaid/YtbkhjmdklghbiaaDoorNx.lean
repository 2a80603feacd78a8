/- The walk of the statement NamesJoin. -/
import Derived.Test.YtbkhjmdklghbiaaDoorNw
namespace Go.Proofs.YtbkhjmdklghbiaaDoor.Nm
open Go Go.RowKit Go.Proofs.YtbkhjmdklghbiaaDoor Go.Proofs.YtbkhjmdklghbiaaDoor.K Go.Proofs.YtbkhjmdklghbiaaDoor.M Go.Proofs.YtbkhjmdklghbiaaDoor.O Go.Proofs.YtbkhjmdklghbiaaDoor.R

set_option maxHeartbeats 16000000 in
set_option maxRecDepth 100000 in
theorem join_walk (a : Option Addr) (len cap : Nat) (xs : List Int) (nn : Int) (w : World) (hx : IntRow w a xs) (hl : xs.length = len) (hlc : len ≤ cap) (hc : cap ≤ 9223372036854775807) :
    Calls Tryd.prog 5 #[.slice a len cap, .int .i64 nn] w fun e w' => e = .returned (.bool true) ∧ Upd [] w w' := by
  have RG := fun w1 (u : Upd [] w w1) => hid (reg_mn 4 a len cap xs w w1 (by decide) (by decide) (hx.upd u) hl hlc hc u)
  clear hx hl hlc hc
  go_enter Tryd.func5, Tryd.ntmps5
  go_wp2_with fail
  refine (begun_true w).mono ?_
  rintro e w1 ⟨rfl, hu1⟩
  have RG' := hid (RG w1 hu1)
  clear hu1 RG
  go_wp2_with fail
  refine RG'.out.out.mono ?_
  rintro e w2 ⟨B, q, k, g, t, rfl, hm, hb⟩
  have HM := hid hm
  have HA := hid (Jn.start (fun z hz => (hb z hz).ok))
  clear hm hb RG'
  go_wp2_with fail
  refine (new_any 7 w2 (by decide) (by decide)).mono ?_
  rintro e w3 ⟨F3, g3, rfl, i3, u3, f3⟩
  have HM3 := hid (HM.out.add (by decide) u3 i3 f3)
  clear i3 u3 f3 HM
  go_wp2_with fail
  refine (new_any 8 w3 (by decide) (by decide)).mono ?_
  rintro e w4 ⟨F4, g4, rfl, i4, u4, f4⟩
  have HM4 := hid (HM3.out.add (by decide) u4 i4 f4)
  clear i4 u4 f4 HM3
  obtain ⟨G', hG⟩ : ∃ G', G' = upf (upf g 4 g3) 5 g4 := ⟨_, rfl⟩
  have e4 : g3 = G' 4 := by rw [hG, upf_ne _ _ _ _ (by decide), upf_at]
  have e5 : g4 = G' 5 := by rw [hG, upf_at]
  rw [← hG] at HM4
  subst e4 e5
  clear hG
  obtain ⟨s, hs⟩ : ∃ s, s = upf (upf t 4 (gnew 7)) 5 (gnew 8) := ⟨_, rfl⟩
  rw [← hs] at HM4 HA
  clear hs
  go_wp2_with fail
  go_loopg [35] 4 (fun d v35 wr => ∃ (i : Nat) (s : Nat → G), v35 = .int .i64 (i : Int) ∧ i ≤ 4 ∧ Hid (i + d = 4) ∧ Hid (Mn B q 6 4 k [q] G' w wr s) ∧ Hid (Jn t s i i))
  case atStart => exact ⟨0, s, rfl, by omega, hid (by omega), HM4, HA⟩
  case round =>
    clear HM4 HA
    obtain ⟨i, s, rfl, hi4, Hi, HM, HA⟩ := hrel
    by_cases hi : i < 4
    · have hi' : (i : Int) < 4 := by omega
      obtain ⟨j, hj⟩ : ∃ j, j = 3 - i := ⟨_, rfl⟩
      have hw3 : IntKind.i64.wrap (3 - (i : Int)) = (j : Int) := by rw [IntWalk.i64_in _ (by omega)]; omega
      have hj4 : j < 4 := by omega
      have hj4' : (j : Int) < 4 := by omega
      have HJ := hid hj
      clear hj
      have ci := HM.out.ptr hi
      have cj := HM.out.ptr hj4
      have ST := hid (mn_state HM.out (i := i) (by omega) (HA.out.ok i (by omega)))
      go_wp2_with fail
      refine ST.out.mono ?_
      rintro e w3 ⟨a3, c3, rfl, -, -, r3, hm3, -⟩
      have MG := hid (mn_merge (hm3.less (Z' := [q]) (by simp) (by simp)) (i := 4) (by decide) (HA.out.ok 4 (by decide)) (by decide) a3 c3 _ (HA.out.ok i (by omega)).wf ((HA.out.ok i (by omega)).rb.mono (HA.out.ok i (by omega)).le) r3)
      clear hm3 r3 ST HM cj ci
      go_wp2_with fail
      refine MG.out.mono ?_
      rintro e w4 ⟨rfl, hm4, -⟩
      have HM4 := hid hm4
      have HA4 := hid (HA.out.stepA hi (i + 1) (.inr ⟨rfl, rfl⟩))
      clear MG hm4 HA
      obtain ⟨s4, hs4⟩ : ∃ s', s' = upf s 4 (gmerge (s 4) (s i).rows) := ⟨_, rfl⟩
      rw [← hs4] at HM4 HA4
      clear hs4
      have cj := HM4.out.ptr hj4
      have ST := hid (mn_state HM4.out (i := j) (by omega) (HA4.out.ok j (by omega)))
      go_wp2_with fail
      refine ST.out.mono ?_
      rintro e w5 ⟨a5, c5, rfl, -, -, r5, hm5, -⟩
      have MG := hid (mn_merge (hm5.less (Z' := [q]) (by simp) (by simp)) (i := 5) (by decide) (HA4.out.ok 5 (by decide)) (by decide) a5 c5 _ (HA4.out.ok j (by omega)).wf ((HA4.out.ok j (by omega)).rb.mono (HA4.out.ok j (by omega)).le) r5)
      clear hm5 r5 ST HM4 cj
      go_wp2_with fail
      refine MG.out.mono ?_
      rintro e w6 ⟨rfl, hm6, -⟩
      have HM6 := hid hm6
      have HA6 := hid (HA4.out.stepB hj4 (i + 1) ⟨by have := HJ.out; omega, rfl⟩)
      clear MG hm6 HA4
      obtain ⟨s6, hs6⟩ : ∃ s', s' = upf s4 5 (gmerge (s4 5) (s4 j).rows) := ⟨_, rfl⟩
      rw [← hs6] at HM6 HA6
      clear hs6
      have c0 := HM6.out.ptr (show 0 < 4 by decide)
      have ST := hid (mn_state HM6.out (i := 0) (by decide) (HA6.out.ok 0 (by decide)))
      go_wp2_with fail
      refine (rest_some _ _ _ (by omega) (by omega)).mono ?_
      rintro e w' ⟨rf, hrf, -, rfl, rfl⟩
      by_cases hir : i = rf
      · have hb : ((i : Int) == (rf : Int)) = true := by rw [beq_iff_eq]; omega
        clear hir
        go_wp2_with fail
        refine ST.out.mono ?_
        rintro e w7 ⟨a7, c7, rfl, -, -, r7, hm7, -⟩
        have MG := hid (mn_merge (hm7.less (Z' := [q]) (by simp) (by simp)) (i := 4) (by decide) (HA6.out.ok 4 (by decide)) (by decide) a7 c7 _ (HA6.out.ok 0 (by decide)).wf ((HA6.out.ok 0 (by decide)).rb.mono (HA6.out.ok 0 (by decide)).le) r7)
        clear hm7 r7 ST HM6 c0
        go_wp2_with fail
        refine MG.out.mono ?_
        rintro e w8 ⟨rfl, hm8, -⟩
        have HM8 := hid hm8
        have HA8 := hid (HA6.out.stepA (y := 0) (by decide) (i + 1) (.inl rfl))
        clear MG hm8 HA6
        go_wp2_with fail
        go_roundg (4 - (i + 1))
        case measure => have := Hi.out; omega
        case rel => exact ⟨i + 1, _, by go_num, by omega, hid (by omega), HM8, HA8⟩
      · have hb : ((i : Int) == (rf : Int)) = false := by rw [beq_eq_false_iff_ne]; omega
        clear hir
        go_wp2_with fail
        go_roundg (4 - (i + 1))
        case measure => have := Hi.out; omega
        case rel => exact ⟨i + 1, _, by go_num, by omega, hid (by omega), HM6, HA6⟩
    · have hi' : ¬ (i : Int) < 4 := by omega
      obtain rfl : i = 4 := by omega
      have ST := hid (mn_state HM.out (i := 5) (by decide) (HA.out.ok 5 (by decide)))
      clear Hi hi4 hi
      go_wp2_with fail
      refine ST.out.mono ?_
      rintro e w3 ⟨a3, c3, rfl, -, -, r3, hm3, -⟩
      have MG := hid (mn_merge (hm3.less (Z' := [q]) (by simp) (by simp)) (i := 5) (by decide) (HA.out.ok 5 (by decide)) (by decide) a3 c3 _ (HA.out.ok 5 (by decide)).wf ((HA.out.ok 5 (by decide)).rb.mono (HA.out.ok 5 (by decide)).le) r3)
      clear hm3 r3 ST HM
      go_wp2_with fail
      refine MG.out.mono ?_
      rintro e w4 ⟨rfl, hm4, -⟩
      have HM4 := hid hm4
      have HA4 := hid HA.out.selfB
      clear MG hm4 HA
      obtain ⟨s4, hs4⟩ : ∃ s', s' = upf s 5 (gmerge (s 5) (s 5).rows) := ⟨_, rfl⟩
      rw [← hs4] at HM4 HA4
      clear hs4
      have EE := hid HA4.out.eq
      have ST := hid (mn_state HM4.out (i := 4) (by decide) (HA4.out.ok 4 (by decide)))
      have few := (HA4.out.ok 5 (by decide)).wf.few
      go_wp2_with fail
      refine ST.out.mono ?_
      rintro e w5 ⟨a5, c5, rfl, -, -, r5, hm5, -⟩
      have R5 := hid r5
      have HM5 := hid hm5
      have ST := hid (mn_state hm5 (i := 5) (by decide) (HA4.out.ok 5 (by decide)))
      clear r5 hm5 HM4
      rw [EE.out] at R5 ⊢
      go_wp2_with fail
      refine ST.out.mono ?_
      rintro e w6 ⟨a6, c6, rfl, -, -, r6, hm6, hu6, -⟩
      have EQ := hid (equal_rows a5 a6 _ c5 c6 (s4 5).rows w6 (R5.out.new hu6) r6 rfl (by omega))
      have HM6 := hid hm6
      clear r6 hm6 hu6 R5 HM5 ST
      go_wp2_with fail
      refine EQ.out.mono ?_
      rintro e w7 ⟨rfl, hu7⟩
      have HM7 := hid (HM6.out.new hu7)
      clear hu7 HM6 EQ
      have ST := hid (mn_all HM7.out (i := 4) (by decide) (HA4.out.ok 4 (by decide)))
      go_wp2_with fail
      refine ST.out.mono ?_
      rintro e w8 ⟨a8, c8, rfl, -, -, r8, hm8, -⟩
      have R8 := hid r8
      have HM8 := hid hm8
      have ST := hid (mn_all hm8 (i := 5) (by decide) (HA4.out.ok 5 (by decide)))
      clear r8 hm8 HM7
      rw [EE.out] at R8 ⊢
      go_wp2_with fail
      refine ST.out.mono ?_
      rintro e w9 ⟨a9, c9, rfl, -, -, r9, hm9, hu9, -⟩
      have EQ := hid (equal_names a8 a9 _ c8 c9 (allOf (s4 5).rows) w9 (R8.out.new hu9) r9 rfl (by have := allOf_le (s4 5).rows; omega))
      have HM9 := hid hm9
      clear r9 hm9 hu9 R8 HM8 ST
      go_wp2_with fail
      refine EQ.out.mono ?_
      rintro e w10 ⟨rfl, hu10⟩
      have HM10 := hid (HM9.out.new hu10)
      clear hu10 HM9 EQ
      go_wp2_with fail
      go_ret
      exact ⟨rfl, HM10.out.upd⟩
end Go.Proofs.YtbkhjmdklghbiaaDoor.Nm
