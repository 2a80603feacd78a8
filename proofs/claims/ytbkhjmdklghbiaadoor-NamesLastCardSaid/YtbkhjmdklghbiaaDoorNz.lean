/- The walk of the statement NamesLast. (printed by gen_nz.py) -/
import Derived.Test.YtbkhjmdklghbiaaDoorNy
namespace Go.Proofs.YtbkhjmdklghbiaaDoor.Nm
open Go Go.RowKit Go.Proofs.YtbkhjmdklghbiaaDoor Go.Proofs.YtbkhjmdklghbiaaDoor.K Go.Proofs.YtbkhjmdklghbiaaDoor.M Go.Proofs.YtbkhjmdklghbiaaDoor.O Go.Proofs.YtbkhjmdklghbiaaDoor.R

set_option maxHeartbeats 16000000 in
set_option maxRecDepth 100000 in
theorem last_walk (a : Option Addr) (len cap : Nat) (xs : List Int) (who0 ref0 : Int) (dr : Bool) (w : World) (hx : IntRow w a xs) (hl : xs.length = len) (hlc : len ≤ cap) (hc : cap ≤ 9223372036854775807) :
    Calls Tryd.prog 3 #[.slice a len cap, .int .i64 who0, .int .i64 ref0, .bool dr] w fun e w' => e = .returned (.bool true) ∧ Upd [] w w' := by
  have RG := fun w1 (u : Upd [] w w1) => hid (reg_mn 3 a len cap xs w w1 (by decide) (by decide) (hx.upd u) hl hlc hc u)
  clear hx hl hlc hc
  go_enter Tryd.func3, Tryd.ntmps3
  go_wp2_with fail
  refine (begun_true w).mono ?_
  rintro e w1 ⟨rfl, hu1⟩
  have RG' := hid (RG w1 hu1)
  clear hu1 RG
  go_wp2_with fail
  refine RG'.out.out.mono ?_
  rintro e w2 ⟨B, q, k, g, t, rfl, hm, hb⟩
  have HM := hid hm
  have HOK := hid (fun z hz => (hb z hz).ok)
  clear hm hb RG'
  go_wp2_with fail
  refine (rest_some _ _ _ (by omega) (by omega)).mono ?_
  rintro e w' ⟨who, hwho, -, rfl, rfl⟩
  go_wp2_with fail
  refine (rest_some _ _ _ (by omega) (by omega)).mono ?_
  rintro e w' ⟨rf, hrf, -, rfl, rfl⟩
  obtain ⟨rr, hrr⟩ : ∃ rr : Nat, rr = 1 + rf := ⟨_, rfl⟩
  have hw : IntKind.i64.wrap (1 + (rf : Int)) = (rr : Int) := by rw [IntWalk.i64_in _ (by omega)]; omega
  have hr1 : 1 ≤ rr := by omega
  clear hrr
  have hw3 : who < 3 := by omega
  have HA := hid (Bd.start who HOK.out)
  have cw := HM.out.ptr hw3
  go_wp2_with fail
  clear cw
  go_loopg [39] 3 (fun d v39 wr => ∃ (i : Nat) (s : Nat → G), v39 = .int .i64 (i : Int) ∧ i ≤ 3 ∧ Hid (i + d = 3) ∧ Hid (Mn B q 3 3 k [q] g w wr s) ∧ Hid (Bd s 3 who i 150))
  case atStart => exact ⟨0, t, rfl, by omega, hid (by omega), HM, HA⟩
  case round =>
    clear HM HA
    obtain ⟨i, s, rfl, hi3, Hi, HM, HA⟩ := hrel
    by_cases hi : i < 3
    · have hi' : (i : Int) < 3 := by omega
      have ci := HM.out.ptr hi
      have ST := hid (mn_state HM.out hi (HA.out.ok i hi))
      go_wp2_with fail
      refine ST.out.mono ?_
      rintro e w3 ⟨a3, c3, rfl, -, -, r3, hm3, -⟩
      have MG := hid (mn_merge (hm3.less (Z' := [q]) (by simp) (by simp)) hw3 (HA.out.ok who hw3) (by decide) a3 c3 _ (HA.out.ok i hi).wf ((HA.out.ok i hi).rb.mono (HA.out.ok i hi).le) r3)
      clear hm3 r3 ST HM ci
      go_wp2_with fail
      refine MG.out.mono ?_
      rintro e w4 ⟨rfl, hm4, -⟩
      have HM4 := hid hm4
      have HA4 := hid (HA.out.step hw3 hi)
      clear MG hm4 HA
      go_wp2_with fail
      go_roundg (3 - (i + 1))
      case measure => have := Hi.out; omega
      case rel => exact ⟨i + 1, _, by go_num, by omega, hid (by omega), HM4, HA4⟩
    · have hi' : ¬ (i : Int) < 3 := by omega
      obtain rfl : i = 3 := by omega
      clear Hi hi3 hi
      have SE := mn_set HM.out hw3 (HA.out.ok who hw3) (by decide) 0 rr (by decide) hr1
      rw [a_str] at SE
      have SE' := hid SE
      clear SE
      have HS1 := hid (HA.out.set hw3 0 rr (by decide))
      have HL1 := hid (HA.out.la hw3 0 rr (by decide))
      have HW := hid ((HA.out.ok who hw3).wf)
      clear HA HM HOK
      obtain ⟨m0, hm0⟩ : ∃ m0, m0 = gset (s who) 0 rr := ⟨_, rfl⟩
      have HR := hid (show refOf m0.rows 0 = rr by rw [hm0]; exact refOf_rput HW.out ⟨0, rr, _, _⟩ (by show 0 < 7; decide))
      rw [← hm0] at SE' HS1 HL1
      obtain ⟨s1, hs1⟩ : ∃ s1, s1 = upf s who m0 := ⟨_, rfl⟩
      have E1 := hid (show s1 who = m0 by rw [hs1, upf_at])
      rw [← hs1] at SE' HS1 HL1
      clear hm0 hs1 HW
      cases dr with
      | false =>
        go_wp2_with fail
        refine SE'.out.mono ?_
        rintro e w3 ⟨rfl, hm3⟩
        have HM := hid hm3
        clear hm3 SE' HS1
        obtain ⟨ra, hra⟩ : ∃ ra : Row, ra = ⟨0, rr, (s who).count + 1, (s who).me⟩ := ⟨_, rfl⟩
        rw [← hra] at HL1
        have RA0 := hid (show ra.name = 0 by rw [hra])
        have RA1 := hid (show ra.ref = rr by rw [hra])
        have HA := hid (show La ra who s1 3 160 from ⟨fun z hz => (HL1.out.ok z hz).mono (by decide), HL1.out.last, HL1.out.has⟩)
        clear hra HL1 E1 HR
        have hrr0 : ¬ rr = 0 := by omega
        have hrrI : ((rr : Int) == (rr : Int)) = true := by rw [beq_iff_eq]
        go_wp2_with fail
        go_loopg [63] 3 (fun d v63 wr => ∃ (i : Nat) (s : Nat → G), v63 = .int .i64 (i : Int) ∧ i ≤ 3 ∧ Hid (i + d = 3) ∧ Hid (Mn B q 3 3 k [q] g w wr s) ∧ Hid (La ra who s 3 160))
        case atStart => exact ⟨0, _, rfl, by omega, hid (by omega), HM, HA⟩
        case round =>
          clear HM HA
          obtain ⟨i, s, rfl, hi3, Hi, HM, HA⟩ := hrel
          by_cases hi : i < 3
          · have hi' : (i : Int) < 3 := by omega
            have ci := HM.out.ptr hi
            have ST := hid (mn_state HM.out hi (HA.out.ok i hi))
            go_wp2_with fail
            refine ST.out.mono ?_
            rintro e w5 ⟨a5, c5, rfl, -, -, r5, hm5, -⟩
            have R5 := hid r5
            have ST := hid (mn_state hm5 hw3 (HA.out.ok who hw3))
            clear r5 hm5 HM ci
            go_wp2_with fail
            refine ST.out.mono ?_
            rintro e w6 ⟨a6, c6, rfl, -, -, r6, hm6, hu6, -⟩
            have R56 := hid (R5.out.new hu6)
            have MG := hid (mn_merge (hm6.less (Z' := blkOf a5 ++ [q]) (fun z hz => List.mem_append.2 (.inr hz)) (by simp)) hi (HA.out.ok i hi) (by decide) a6 c6 _ (HA.out.ok who hw3).wf ((HA.out.ok who hw3).rb.mono (HA.out.ok who hw3).le) r6)
            clear r6 hm6 hu6 R5 ST
            go_wp2_with fail
            refine MG.out.mono ?_
            rintro e w7 ⟨rfl, hm7, hf7⟩
            have R57 := hid (R56.out.far hf7 (fun z hz => List.mem_append.2 (.inl hz)))
            have HM7 := hid hm7
            obtain ⟨la, lb⟩ := HA.out.step hi (s who).rows (HA.out.ok who hw3).wf ((HA.out.ok who hw3).rb.mono (HA.out.ok who hw3).le) (HA.out.last who hw3) (.inl HA.out.has)
            have LA := hid la
            obtain ⟨s1, hs1⟩ : ∃ s1, s1 = upf s i (gmerge (s i) (s who).rows) := ⟨_, rfl⟩
            have LB := hid (show ra ∈ (s1 i).rows by rw [hs1, upf_at]; exact lb)
            rw [← hs1] at HM7 LA
            have MG := hid (mn_merge (HM7.out.less (Z' := [q]) (by simp) (by simp)) hi (LA.out.ok i hi) (by decide) a5 c5 _ (HA.out.ok i hi).wf ((HA.out.ok i hi).rb.mono (HA.out.ok i hi).le) R57.out)
            obtain ⟨la, lb⟩ := LA.out.step hi (s i).rows (HA.out.ok i hi).wf ((HA.out.ok i hi).rb.mono (HA.out.ok i hi).le) (HA.out.last i hi) (.inr LB.out)
            have LA2 := hid la
            obtain ⟨s2, hs2⟩ : ∃ s2, s2 = upf s1 i (gmerge (s1 i) (s i).rows) := ⟨_, rfl⟩
            have LB2 := hid (show ra ∈ (s2 i).rows by rw [hs2, upf_at]; exact lb)
            rw [← hs2] at MG LA2
            have RF := hid (show refOf (s2 i).rows 0 = rr by have h := ref_mem (LA2.out.ok i hi).wf LB2.out; rwa [RA0.out, RA1.out] at h)
            clear hm7 hf7 la lb LA LB LB2 hs1 hs2 R56 R57 HM7 HA
            go_wp2_with fail
            refine MG.out.mono ?_
            rintro e w8 ⟨rfl, hm8, -⟩
            have FD := mn_find hm8 hi (LA2.out.ok i hi) 0 (by decide)
            rw [RF.out, a_str, if_neg hrr0] at FD
            have FD' := hid FD
            clear FD hm8 MG RF
            go_wp2_with fail
            refine FD'.out.mono ?_
            rintro e w9 ⟨rfl, hm9⟩
            have HM9 := hid hm9
            clear hm9 FD'
            go_wp2_with fail
            go_roundg (3 - (i + 1))
            case measure => have := Hi.out; omega
            case rel => exact ⟨i + 1, s2, by go_num, by omega, hid (by omega), HM9, LA2⟩
          · have hi' : ¬ (i : Int) < 3 := by omega
            go_wp2_with fail
            go_ret
            exact ⟨rfl, HM.out.upd⟩
      | true =>
        have h0 : ¬ rr = 0 := by omega
        have DP := fun (wz : World) (h : Mn B q 3 3 k [q] g w wz s1) => mn_drop h hw3 (HS1.out.ok who hw3) (by decide) 0 (by decide)
        have ED : gdrop (s1 who) 0 = gset (s1 who) 0 0 := by unfold gdrop; rw [if_neg (by rw [E1.out, HR.out]; exact h0)]
        rw [E1.out, HR.out, if_neg h0] at DP
        rw [E1.out] at ED
        rw [ED, a_str] at DP
        have HL2 := hid (HS1.out.la hw3 0 0 (by decide))
        rw [E1.out] at HL2
        have DP' := fun (wz : World) (h : Mn B q 3 3 k [q] g w wz s1) => hid (DP wz h)
        clear DP h0 HL1 HS1 ED HR
        go_wp2_with fail
        refine SE'.out.mono ?_
        rintro e w3 ⟨rfl, hm3⟩
        have DQ := hid (DP' w3 hm3)
        clear hm3 SE' DP'
        go_wp2_with fail
        refine DQ.out.out.mono ?_
        rintro e w4 ⟨rfl, hm4⟩
        have HM := hid hm4
        clear DQ hm4
        obtain ⟨s2, hs2⟩ : ∃ s2, s2 = upf s1 who (gset m0 0 0) := ⟨_, rfl⟩
        rw [← hs2] at HM HL2
        obtain ⟨ra, hra⟩ : ∃ ra : Row, ra = ⟨0, 0, m0.count + 1, m0.me⟩ := ⟨_, rfl⟩
        rw [← hra] at HL2
        have RA0 := hid (show ra.name = 0 by rw [hra])
        have RA1 := hid (show ra.ref = 0 by rw [hra])
        have HA := hid (show La ra who s2 3 160 from ⟨fun z hz => (HL2.out.ok z hz).mono (by decide), HL2.out.last, HL2.out.has⟩)
        clear hra hs2 HL2 E1
        go_wp2_with fail
        go_loopg [63] 3 (fun d v63 wr => ∃ (i : Nat) (s : Nat → G), v63 = .int .i64 (i : Int) ∧ i ≤ 3 ∧ Hid (i + d = 3) ∧ Hid (Mn B q 3 3 k [q] g w wr s) ∧ Hid (La ra who s 3 160))
        case atStart => exact ⟨0, _, rfl, by omega, hid (by omega), HM, HA⟩
        case round =>
          clear HM HA
          obtain ⟨i, s, rfl, hi3, Hi, HM, HA⟩ := hrel
          by_cases hi : i < 3
          · have hi' : (i : Int) < 3 := by omega
            have ci := HM.out.ptr hi
            have ST := hid (mn_state HM.out hi (HA.out.ok i hi))
            go_wp2_with fail
            refine ST.out.mono ?_
            rintro e w5 ⟨a5, c5, rfl, -, -, r5, hm5, -⟩
            have R5 := hid r5
            have ST := hid (mn_state hm5 hw3 (HA.out.ok who hw3))
            clear r5 hm5 HM ci
            go_wp2_with fail
            refine ST.out.mono ?_
            rintro e w6 ⟨a6, c6, rfl, -, -, r6, hm6, hu6, -⟩
            have R56 := hid (R5.out.new hu6)
            have MG := hid (mn_merge (hm6.less (Z' := blkOf a5 ++ [q]) (fun z hz => List.mem_append.2 (.inr hz)) (by simp)) hi (HA.out.ok i hi) (by decide) a6 c6 _ (HA.out.ok who hw3).wf ((HA.out.ok who hw3).rb.mono (HA.out.ok who hw3).le) r6)
            clear r6 hm6 hu6 R5 ST
            go_wp2_with fail
            refine MG.out.mono ?_
            rintro e w7 ⟨rfl, hm7, hf7⟩
            have R57 := hid (R56.out.far hf7 (fun z hz => List.mem_append.2 (.inl hz)))
            have HM7 := hid hm7
            obtain ⟨la, lb⟩ := HA.out.step hi (s who).rows (HA.out.ok who hw3).wf ((HA.out.ok who hw3).rb.mono (HA.out.ok who hw3).le) (HA.out.last who hw3) (.inl HA.out.has)
            have LA := hid la
            obtain ⟨s1, hs1⟩ : ∃ s1, s1 = upf s i (gmerge (s i) (s who).rows) := ⟨_, rfl⟩
            have LB := hid (show ra ∈ (s1 i).rows by rw [hs1, upf_at]; exact lb)
            rw [← hs1] at HM7 LA
            have MG := hid (mn_merge (HM7.out.less (Z' := [q]) (by simp) (by simp)) hi (LA.out.ok i hi) (by decide) a5 c5 _ (HA.out.ok i hi).wf ((HA.out.ok i hi).rb.mono (HA.out.ok i hi).le) R57.out)
            obtain ⟨la, lb⟩ := LA.out.step hi (s i).rows (HA.out.ok i hi).wf ((HA.out.ok i hi).rb.mono (HA.out.ok i hi).le) (HA.out.last i hi) (.inr LB.out)
            have LA2 := hid la
            obtain ⟨s2, hs2⟩ : ∃ s2, s2 = upf s1 i (gmerge (s1 i) (s i).rows) := ⟨_, rfl⟩
            have LB2 := hid (show ra ∈ (s2 i).rows by rw [hs2, upf_at]; exact lb)
            rw [← hs2] at MG LA2
            have RF := hid (show refOf (s2 i).rows 0 = 0 by have h := ref_mem (LA2.out.ok i hi).wf LB2.out; rwa [RA0.out, RA1.out] at h)
            clear hm7 hf7 la lb LA LB LB2 hs1 hs2 R56 R57 HM7 HA
            go_wp2_with fail
            refine MG.out.mono ?_
            rintro e w8 ⟨rfl, hm8, -⟩
            have FD := mn_find hm8 hi (LA2.out.ok i hi) 0 (by decide)
            rw [RF.out, a_str, if_pos rfl] at FD
            have FD' := hid FD
            clear FD hm8 MG RF
            go_wp2_with fail
            refine FD'.out.mono ?_
            rintro e w9 ⟨rfl, hm9⟩
            have HM9 := hid hm9
            clear hm9 FD'
            go_wp2_with fail
            go_roundg (3 - (i + 1))
            case measure => have := Hi.out; omega
            case rel => exact ⟨i + 1, s2, by go_num, by omega, hid (by omega), HM9, LA2⟩
          · have hi' : ¬ (i : Int) < 3 := by omega
            go_wp2_with fail
            go_ret
            exact ⟨rfl, HM.out.upd⟩
end Go.Proofs.YtbkhjmdklghbiaaDoor.Nm
