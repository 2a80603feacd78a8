/- The walk of the statement CutWay. -/
import Derived.Test.YtcdladnbcamgjaaWy
namespace Go.Proofs.Ytcdladnbcamgjaa.CWy
open Go Go.RowKit Go.Proofs.Ytcdladnbcamgjaa.K Go.Proofs.Ytcdladnbcamgjaa.Ev Go.Proofs.Ytcdladnbcamgjaa.R Go.Proofs.Ytcdladnbcamgjaa.CL Go.Proofs.Ytcdladnbcamgjaa.CW Go.Proofs.Ytcdladnbcamgjaa.Th Go.Proofs.Ytcdladnbcamgjaa.Cu Go.Proofs.Ytcdladnbcamgjaa.CuT Go.Proofs.Ytcdladnbcamgjaa.Cv Go.Proofs.Ytcdladnbcamgjaa.Cw Go.Proofs.Ytcdladnbcamgjaa.Ha Go.Proofs.Ytcdladnbcamgjaa.O Go.Proofs.Ytcdladnbcamgjaa.Df Go.Proofs.Ytcdladnbcamgjaa.So Go.Proofs.Ytcdladnbcamgjaa.Wy

theorem way_front {l : List Ev} (hv : Valid l) (n : Nat) (hn : n ≤ l.length) : wayOf l (inC l (frontC l n)) l.length = wayOf l (fun _ => true) n := by
  rw [wayOf_stop l _ n l.length hn (fun k h1 h2 => by rw [in_front hv n h2]; simp; omega)]
  exact wayOf_congr l _ _ n (fun k hk => by rw [in_front hv n (by omega)]; simp; omega)

set_option maxHeartbeats 8000000 in
set_option maxRecDepth 100000 in
theorem the_walk (a0 : Option Addr) (len0 cap0 : Nat) (z0 : List Int) (n0 : Int) (w : World) (hc0 : len0 ≤ cap0) (hm0 : cap0 ≤ 9223372036854775807) (r0 : IntRow w a0 z0) (e0 : z0.length = len0) :
    Calls Try.prog 13 #[.slice a0 len0 cap0, .int .i64 n0] w fun e w' => e = .returned (.bool true) ∧ Upd [] w w' := by
  have R0 := hid r0; have E0 := hid e0
  clear r0 e0
  have U := hid (Upd.refl [] w)
  go_enter Try.func13, Try.ntmps13
  go_wp2_with fail
  refine (cutBegun_any _).mono ?_
  rintro e w1 ⟨rfl, hu⟩
  replace U := hid (U.out.trans hu (by simp)); replace R0 := hid (R0.out.upd hu)
  clear hu
  go_wp2_with fail
  refine (hist_at a0 len0 cap0 z0 _ R0.out E0.out hc0 hm0).mono ?_
  rintro e w2 ⟨l, n, b, c, rfl, H, hn, hlc2, hc2, hu⟩
  replace U := hid (U.out.trans hu (by simp))
  clear hu R0
  clear E0 hc0 hm0
  have HV := hid H.out.valid
  go_wp2_with fail
  refine (rest_some _ _ _ (by omega) (by omega)).mono ?_
  rintro e w' ⟨n1, hn1, -, rfl, rfl⟩
  have hle : n1 ≤ n := by omega
  obtain ⟨i3, hi3, hz3a, hz3b, hz3c⟩ := info_parts Hi.info3
  have HI3 := hid hi3
  have HA3 := hid hz3a
  have HB3 := hid hz3b
  have HC3 := hid hz3c
  clear hi3 hz3a hz3b hz3c
  obtain ⟨B, hB⟩ : ∃ B, B = w2.heap.size := ⟨_, rfl⟩
  have HBS := hid hB
  clear hB
  have hmk := make8
  obtain ⟨C, hC⟩ : ∃ C, C = w2.heap.size := ⟨_, rfl⟩
  have A0 : Hid (Arr (w2.alloc (.cells (ints zero8).toArray 3)) C 3 8 (fun p => .int .i64 ((cnt l p 0 : Nat) : Int))) := by
    rw [hC]; exact arr_new w2 _ 3 8 _ rfl (fun z hz => ints_zero_get z hz)
  have V0 : Hid (Upd [] w2 (w2.alloc (.cells (ints zero8).toArray 3))) := (Upd.refl _ _).alloc _
  have CW0 := hid (show w2.heap.size ≤ C by rw [hC]; exact Nat.le_refl _)
  have hlc3 : (n1 : Int) ≤ (c : Int) := by omega
  have hlc4 : (n1 : Int) ≤ (n : Int) := by omega
  go_wp2_with fail
  rw [← hC]
  clear hC hmk
  go_loopg [7, 28] n1 (fun d v7 v28 wr => ∃ (j : Nat), v28 = .int .i64 (j : Int) ∧ j ≤ n1 ∧ Hid (j + d = n1) ∧ Hid (wr.ownsRow B 3 1 v7 (wayOf l (fun _ => true) j).length (ints (wayOf l (fun _ => true) j))) ∧ Hid (∀ k, v7.ownBlock = some k → k ≠ C) ∧ Hid (Arr wr C 3 8 (fun p => .int .i64 ((cnt l p j : Nat) : Int))) ∧ Hid (Upd [] w2 wr))
  case atStart => exact ⟨0, rfl, by omega, by show _ = _; omega, World.ownsRow_nil _ _ _ _, hid (fun k hk => by cases hk), A0.out, V0.out⟩
  case round =>
    clear A0 V0
    obtain ⟨j, rfl, hj1, Hj, Ho, Hb, Ha, V⟩ := hrel
    have hwl := wayOf_le l (fun _ => true) j
    obtain ⟨way, hway⟩ : ∃ way, way = wayOf l (fun _ => true) j := ⟨_, rfl⟩
    rw [← hway] at Ho hwl
    have HW := hid hway
    clear hway
    by_cases hj : j < n1
    · have hjl := hid (show j < l.length by rw [← H.out.len]; omega)
      obtain ⟨g0, rfl, c0, c1, c2⟩ := (H.out.upd V.out).row j hjl.out
      have hp8 := (HV.out j hjl.out).p8
      obtain ⟨⟨pl, kd, ms⟩, hev⟩ : ∃ ev, ev = l.getD j noEv := ⟨_, rfl⟩
      rw [← hev] at c0 c1 c2 hp8
      simp only at c0 c1 c2 hp8
      have HE : Hid (ev l j = ⟨pl, kd, ms⟩) := hev.symm
      clear hev
      obtain ⟨x, hx⟩ : ∃ x, x = cnt l pl j := ⟨_, rfl⟩
      have hxl : x ≤ 200 := by have := cnt_le l pl j; omega
      have q : ∀ o, (wr.alloc o).cell? ⟨C, pl, none⟩ = some (.int .i64 (x : Int)) := fun o => by rw [hx]; exact (Ha.out.alloc o).cell hp8
      have qf : ∀ o, (wr.alloc o).frozen? ⟨C, pl, none⟩ = false := fun o => (Ha.out.alloc o).fro pl
      have hAl := Ha.out.lt
      have HXX := hid hx
      clear hx
      have hij : (j : Int) < (n1 : Int) := by omega
      go_upto_region 11 with (fail)
      obtain ⟨W1, hW1⟩ : ∃ W1, W1 = (wr.setCell ⟨C, pl, none⟩ (.int .i64 ((x : Int) + 1))).alloc (.cells #[.int .i64 (pl : Int), .int .i64 (kd : Int), .int .i64 (ms : Int)] 31) := ⟨_, rfl⟩
      obtain ⟨E, hE⟩ : ∃ E, E = wr.heap.size := ⟨_, rfl⟩
      have esz : (wr.setCell ⟨C, pl, none⟩ (.int .i64 ((x : Int) + 1))).heap.size = E := by rw [hE]; simp [World.setCell]
      have E1 : Hid (W1.heap[E]? = some (.cells #[.int .i64 (pl : Int), .int .i64 (kd : Int), .int .i64 (ms : Int)] 31 (0, 0))) := by rw [hW1, ← esz]; exact blk_new _ _
      have A1 : Hid (Arr W1 C 3 8 (fun p => .int .i64 ((cnt l p (j + 1) : Nat) : Int))) := by
        rw [hW1]
        refine ((Ha.out.set pl _).alloc _).congr (fun z hz => ?_)
        have ep : (ev l j).place = pl := by rw [HE.out]
        simp only [cnt, ep]
        by_cases e : z = pl
        · subst e; rw [if_pos rfl, if_pos rfl, ← HXX.out]; go_num
        · rw [if_neg e, if_neg (fun q => e q.symm)]; rfl
      have O1 : Hid (W1.ownsRow B 3 1 u7 way.length (ints way)) := by
        rw [hW1]; exact (own_upd Ho.out ((Upd.refl [C] wr).setCell (.inl (by simp)) _) (fun k hk => by simpa using Hb.out k hk)).alloc _
      have V1 : Hid (Upd [] w2 W1) := by rw [hW1]; exact (V.out.setCell (.inr CW0.out) _).alloc _
      have CL1 : Hid (C < W1.heap.size) := A1.out.lt
      rw [← hW1, ← hE]
      clear hW1 hE esz Ho Ha V q qf hAl c0 c1 c2
      have e0 : W1.cell? ⟨E, 0, none⟩ = some (.int .i64 (pl : Int)) := (blk_cell E1.out 0).trans rfl
      have e1 : W1.cell? ⟨E, 1, none⟩ = some (.int .i64 (kd : Int)) := (blk_cell E1.out 1).trans rfl
      have e2 : W1.cell? ⟨E, 2, none⟩ = some (.int .i64 (ms : Int)) := (blk_cell E1.out 2).trans rfl
      by_cases kd2 : kd = 2
      · have b2 : ((kd : Int) == 2) = true := by rw [beq_iff_eq]; omega
        have KD2 := hid kd2
        clear kd2
        go_wp2_with (first | (at_builtin; refine wpList_app (W := W1) rfl (.tmp 43) (.tmp 46) 22 rfl B 3 i3 _ 1 8 Try.underlying22 HI3.out HA3.out HB3.out HC3.out rfl (by decide) u7 way.length (ints way) rfl O1.out [.int .i64 (ms : Int)] 3 (by first | rfl | (rw [World.size_alloc]; rfl)) rfl (by intro u hu; simp at hu; subst hu; rfl) (by omega) (by omega) (by have := V1.out.size; have := HBS.out; omega) ?_; intro v8' w6 hw6 hu6 hl6; have HW6 := hid hw6; have HU6 := hid hu6; have HL6 := hid hl6; clear hw6 hu6 hl6))
        go_roundg (n1 - (j + 1))
        case measure => have := Hj.out; omega
        case rel =>
          have e : wayOf l (fun _ => true) (j + 1) = way ++ [(ms : Int)] := by
            rw [HW.out]; show (if true = true then (if (ev l j).kind = 2 then _ else _) else _) = _
            rw [if_pos rfl, HE.out, if_pos KD2.out]
          refine ⟨j + 1, by go_num, by omega, by show _ = _; omega, ?_, hid (fun k hk => ?_), A1.out.upd HU6.out (fun hm => Hb.out C (by simpa using hm) rfl), V1.out.trans HU6.out (fun t ht => .inr (by rw [← HBS.out]; exact own_ge O1.out t (by simpa using ht)))⟩
          · rw [e, List.length_append]
            have : ints (way ++ [(ms : Int)]) = ints way ++ [.int .i64 (ms : Int)] := by simp [ints]
            rw [this]; exact HW6.out
          · rcases HL6.out k hk with h | h
            · exact Hb.out k h
            · have := CL1.out; omega
      · have b2 : ((kd : Int) == 2) = false := by rw [beq_eq_false_iff_ne]; omega
        have KD2 := hid kd2
        clear kd2
        by_cases kd3 : kd = 3
        · have b3 : ((kd : Int) == 3) = true := by rw [beq_iff_eq]; omega
          have KD3 := hid kd3
          clear kd3
          go_wp2_with fail
          refine (deleteFunc_42 E (ms : Int) _ _ B _ way.length way _ (asks42 _ _) E1.out O1.out (by omega)).mono ?_
          rintro e w6 ⟨v8', rfl, ho, hob, hu⟩
          have HO6 := hid ho
          have HU6 := hid hu
          have HB6 := hid hob
          clear ho hu hob
          go_wp2_with fail
          go_roundg (n1 - (j + 1))
          case measure => have := Hj.out; omega
          case rel =>
            have e : wayOf l (fun _ => true) (j + 1) = way.filter (fun x => x != (ms : Int)) := by
              rw [HW.out]; show (if true = true then (if (ev l j).kind = 2 then _ else (if (ev l j).kind = 3 then _ else _)) else _) = _
              rw [if_pos rfl, HE.out, if_neg KD2.out, if_pos KD3.out]
            exact ⟨j + 1, by go_num, by omega, by show _ = _; omega, by rw [e]; exact HO6.out, hid (fun k hk => Hb.out k (HB6.out k hk)), A1.out.upd HU6.out (fun hm => Hb.out C (by simpa using hm) rfl), V1.out.trans HU6.out (fun t ht => .inr (by rw [← HBS.out]; exact own_ge O1.out t (by simpa using ht)))⟩
        · have b3 : ((kd : Int) == 3) = false := by rw [beq_eq_false_iff_ne]; omega
          have KD3 := hid kd3
          clear kd3
          go_wp2_with fail
          go_roundg (n1 - (j + 1))
          case measure => have := Hj.out; omega
          case rel =>
            have e : wayOf l (fun _ => true) (j + 1) = way := by
              rw [HW.out]; show (if true = true then (if (ev l j).kind = 2 then _ else (if (ev l j).kind = 3 then _ else _)) else _) = _
              rw [if_pos rfl, HE.out, if_neg KD2.out, if_neg KD3.out]
            exact ⟨j + 1, by go_num, by omega, by show _ = _; omega, by rw [e]; exact O1.out, Hb.out, A1.out, V1.out⟩
    · obtain rfl : j = n1 := by omega
      have CC : Hid (CutAt wr C l (frontC l j)) := ⟨Arr.row (n := 8) (t := 3) (Ha.out.congr (fun z hz => by rw [front_get _ _ _ hz])) (front_len l j), vcut_front l j (by rw [← H.out.len]; exact hle)⟩
      go_wp2_with fail
      refine (sort_own Ho.out (by omega)).mono ?_
      rintro e w6 ⟨rfl, ho, hu⟩
      have C6 : Hid (CutAt w6 C l (frontC l j)) := ⟨Arr.row (n := 8) (t := 3) ((Ha.out.upd hu (fun hm => Hb.out C (by simpa using hm) rfl)).congr (fun z hz => by rw [front_get _ _ _ hz])) (front_len l j), CC.out.cut⟩
      have V6 := hid (V.out.trans hu (fun t ht => .inr (by rw [← HBS.out]; exact own_ge Ho.out t (by simpa using ht))))
      obtain ⟨a7, c7, e7, l7, m7, r7⟩ := intRow_of (l := sortL way) (by rw [sortL_length]; exact ho)
      rw [sortL_length] at e7
      subst e7
      have R7 := hid r7
      clear ho hu r7 Ho Ha V Hb CC
      go_wp2_with fail
      refine (H_whole_yes (H.out.upd V6.out) _ C6.out (whole_front HV.out j)).mono ?_
      rintro e p1 ⟨rfl, hu⟩
      replace V6 := hid (V6.out.trans hu (by simp)); replace C6 := hid (C6.out.upd hu); replace R7 := hid (R7.out.upd hu)
      clear hu
      go_wp2_with fail
      refine (way_call _ c l n C _ (frontC l j) _ (H.out.upd V6.out) C6.out).mono ?_
      rintro e p2 ⟨a8, c8, m8, rfl, R8, E8, h60, hu⟩
      replace V6 := hid (V6.out.trans hu (by simp)); replace R7 := hid (R7.out.upd hu)
      clear hu
      have EE : Hid (sortL (wayOf l (inC l (frontC l j)) n) = sortL way) := by show _ = _; rw [H.out.len, way_front HV.out j (by rw [← H.out.len]; exact hle), HW.out]
      go_wp2_with fail
      refine (EQ.equal_any a8 m8 c8 _ a7 way.length c7 (sortL way) _ R8.out E8.out R7.out (sortL_length way) (by omega) (by omega)).mono ?_
      rintro e p3 ⟨rfl, q, rfl⟩
      rw [decide_eq_true EE.out]
      go_wp2_with fail
      go_ret
      exact ⟨rfl, (U.out.trans V6.out (by simp)).drewN _⟩
end Go.Proofs.Ytcdladnbcamgjaa.CWy
