/- The walk of Knows. -/
import Derived.Test.YtgocminfohbedaaCd
namespace Go.Proofs.Ytgocminfohbedaa.Cy
open Go Go.RowKit Go.Proofs.Ytgocminfohbedaa Go.Proofs.Ytgocminfohbedaa.K Go.Proofs.Ytgocminfohbedaa.M Go.Proofs.Ytgocminfohbedaa.O Go.Proofs.Ytgocminfohbedaa.So Go.Proofs.Ytgocminfohbedaa.R
def KnowsSome (w : World) (B : Nat) (v : Value) : Prop := ∃ L, KnowsOf w B v L

set_option maxHeartbeats 16000000 in
set_option maxRecDepth 100000 in
theorem knows_any (a : Option Addr) (len cap : Nat) (xs : List Int) (w : World) (hx : IntRow w a xs) (hl : xs.length = len) (hlc : len ≤ cap) (hc : cap ≤ 9223372036854775807) :
    Calls Try.prog 9 #[.slice a len cap] w fun e w' => ∃ v, e = .returned v ∧ KnowsSome w' w.heap.size v ∧ Upd [] w w' := by
  obtain ⟨i3, hi3, hz3a, hz3b, hz3c⟩ := info_parts info3
  have HI3 := hid hi3
  have HA3 := hid hz3a
  have HB3 := hid hz3b
  have HC3 := hid hz3c
  obtain ⟨i31, hi31, hz31a, hz31b, hz31c⟩ := info_parts info31
  have HI31 := hid hi31
  have HA31 := hid hz31a
  have HB31 := hid hz31b
  have HC31 := hid hz31c
  clear hi3 hz3a hz3b hz3c hi31 hz31a hz31b hz31c
  have HX := hid hx
  have HL := hid hl
  clear hx hl
  obtain ⟨m, hm⟩ : ∃ m : Nat, min (len : Int) 40 = (m : Int) := ⟨min len 40, by omega⟩
  have hmin := fun ats ty => min_nat ats ty .i64 .i64 (len : Int) 40 m hm
  have hm1 : m ≤ len := by omega
  have hm2 : m ≤ 40 := by omega
  obtain ⟨B, hB⟩ : ∃ B, B = w.heap.size := ⟨_, rfl⟩
  rw [← hB]
  have HBS := hid hB
  clear hm hB
  go_enter Try.func9, Try.ntmps9
  go_wp2_with fail
  go_loopg [3, 15] m (fun d v3 v15 wr => ∃ (i : Nat) (L : List (Know × Value)) (M : Nat), v15 = .int .i64 (i : Int) ∧ i ≤ m ∧ Hid (i + d = m) ∧ Hid (L.length = i) ∧ Hid (wr.ownsRow B 31 4 v3 i (kcells L)) ∧ Hid (RefsAt wr L M ∧ M ≤ wr.heap.size) ∧ Hid (∀ j, j < L.length → (L.getD j noKV).1.ref = 1000 + (j : Int)) ∧ Hid (Upd [] w wr))
  case atStart => exact ⟨0, [], B, rfl, by omega, hid (by omega), hid rfl, hid (World.ownsRow_nil _ _ _ _), hid ⟨fun i hi => by simp at hi, by have := HBS.out; omega⟩, hid (fun j hj => by simp at hj), hid (Upd.refl _ _)⟩
  case round =>
    obtain ⟨i, L, M, rfl, hi, Hd, HLN, HO, HR, HF, HU⟩ := hrel
    by_cases him : i < m
    · have hi' : (i : Int) < (m : Int) := by omega
      obtain ⟨xa, rfl, hcw⟩ := HX.out.upd HU.out i (by rw [HL.out]; omega)
      obtain ⟨x, hx⟩ : ∃ x, x = xs.getD i 0 := ⟨_, rfl⟩
      rw [← hx] at hcw
      have HIM := hid him
      clear hx him
      obtain ⟨rf, hrf⟩ : ∃ rf, rf = 1000 + (i : Int) := ⟨_, rfl⟩
      have hwr : IntKind.i64.wrap (1000 + (i : Int)) = rf := by rw [IntWalk.i64_in _ (by omega)]; omega
      have hi40 : i ≤ 40 := by omega
      have HRF := hid hrf
      clear hrf
      go_wp2_with fail
      refine (rest_some x 13 _ (by omega) (by omega)).mono ?_
      rintro e w' ⟨r1, hr1, -, rfl, rfl⟩
      go_wp2_with fail
      refine (rest_some x 11 _ (by omega) (by omega)).mono ?_
      rintro e w' ⟨r2, hr2, -, rfl, rfl⟩
      obtain ⟨ro, hro⟩ : ∃ ro, ro = ((r1 : Int) == 0) := ⟨_, rfl⟩
      obtain ⟨aw, haw⟩ : ∃ aw, aw = ((r2 : Int) == 0) := ⟨_, rfl⟩
      go_upto_region 7 with (fail)
      obtain ⟨w2, hw2⟩ : ∃ w2, w2 = wr.alloc (.cells #[.int .i64 rf, .bool ((r2 : Int) == 0), .bool ((r1 : Int) == 0), .slice none 0 0] 31) := ⟨_, rfl⟩
      obtain ⟨X, hX⟩ : ∃ X, X = wr.heap.size := ⟨_, rfl⟩
      have U2 := hid (show Upd [] wr w2 by rw [hw2]; exact (Upd.refl [] wr).alloc _)
      have XB := hid (show w2.heap[X]? = some (.cells #[.int .i64 rf, .bool aw, .bool ro, .slice none 0 0] 31 (0, 0)) by rw [hw2, hX, haw, hro]; exact K.blk_new wr _)
      have S2 := hid (show w2.heap.size = X + 1 by rw [hw2, hX]; show (wr.heap.push _).size = _; simp)
      rw [← hw2, ← hX]
      have HXS := hid hX
      obtain ⟨a3, k3, e3, -⟩ := own_view HO.out
      subst e3
      have O2 := hid (own_new HO.out U2.out)
      have R2 := hid (HR.out.1.new U2.out)
      have UU2 := hid (HU.out.trans U2.out (fun t ht => by cases ht))
      have MX := hid (show M ≤ X ∧ B ≤ X by have := HR.out.2; have := HU.out.size; have := HBS.out; omega)
      have A3X := hid (show ∀ z, (Value.slice a3 i k3).ownBlock = some z → z < X from fun z hz => by rw [HXS.out]; exact own_lt HO.out z hz)
      obtain ⟨M2, hM2⟩ : ∃ M2, M2 = w2.heap.size := ⟨_, rfl⟩
      have HM2 := hid hM2
      clear hw2 hX hro haw hM2 hcw HO HR HU
      go_wp2_with fail
      refine (rest_some _ 4 _ (by omega) (by omega)).mono ?_
      rintro e w' ⟨c, hc4, -, rfl, rfl⟩
      go_wp2_with fail
      go_loopg [32] c (fun d v32 wr => ∃ (j : Nat) (q : List Int) (vr : Value), v32 = .int .i64 (j : Int) ∧ j ≤ c ∧ Hid (j + d = c) ∧ Hid (q.length = j) ∧ Hid (wr.heap[X]? = some (.cells #[.int .i64 rf, .bool aw, .bool ro, vr] 31 (0, 0))) ∧ Hid (wr.ownsRow M2 3 1 vr q.length (ints q)) ∧ Hid (wr.ownsRow B 31 4 (.slice a3 i k3) i (kcells L)) ∧ Hid (RefsAt wr L M) ∧ Hid (M2 ≤ wr.heap.size) ∧ Hid (Upd [] w wr))
      case atStart => exact ⟨0, [], .slice none 0 0, rfl, by omega, hid (by omega), hid rfl, XB, hid (World.ownsRow_nil _ _ _ _), O2, R2, hid (by rw [HM2.out]; exact Nat.le_refl _), UU2⟩
      case round =>
        clear XB O2 R2 UU2
        obtain ⟨j, q, vr, rfl, hj, Hj, HQL, HXB, HV, HO, HR, HMM, HU⟩ := hrel
        obtain ⟨ar, kr, er, -⟩ := own_view HV.out
        subst er
        by_cases hjc : j < c
        · have hj' : (j : Int) < (c : Int) := by omega
          have KEEP := hid (show ∀ wz, Upd [] wr wz → wz.cell? ⟨X, 3, none⟩ = some (.slice ar q.length kr) from fun wz u => K.blk_cell (u.blk HXB.out (by simp)) 3)
          obtain ⟨m2, hm2⟩ : ∃ m2, m2 = m + 2 := ⟨_, rfl⟩
          have hwm : IntKind.i64.wrap ((m : Int) + 2) = (m2 : Int) := by rw [IntWalk.i64_in _ (by omega)]; omega
          have hm2b : m2 ≤ 42 ∧ 2 ≤ m2 := by omega
          have HJ := hid hjc
          clear hm2 hjc
          go_upto_region 10 with (fail)
          refine J.J_begin (fun wz => wz.cell? ⟨X, 3, none⟩ = some (.slice ar q.length kr)) 18 (by kernel_rfl) ⟨by kernel_rfl, by kernel_rfl, by kernel_rfl⟩ (KEEP.out _ ((Upd.refl [] wr).drew)) (fun LAST HS => ?_)
          refine J.J_take (i := 0) (v := ?_) LAST (by rfl) (by decide) (by kernel_rfl) (by kernel_rfl) (by intro _ _ _ h; exact h) HS (Or.inl ⟨by rfl, ?_⟩) ?_
          rotate_left
          · intro w hSw; (try dsimp only at hSw); go_simp; try with_reducible rfl
          try simp only [Act.put, List.setIfInBounds_toArray, List.set_cons_zero, List.set_cons_succ]
          refine J.J_take (i := 1) (v := ?_) LAST (by rfl) (by decide) (by kernel_rfl) (by kernel_rfl) (by intro _ _ _ h; exact h) HS (Or.inl ⟨by rfl, ?_⟩) ?_
          rotate_left
          · intro w hSw; (try dsimp only at hSw); go_simp; try with_reducible rfl
          try simp only [Act.put, List.setIfInBounds_toArray, List.set_cons_zero, List.set_cons_succ]
          refine J.J_take (i := 2) (v := ?_) LAST (by rfl) (by decide) (by kernel_rfl) (by kernel_rfl) (by intro _ _ _ h; exact h) HS (Or.inl ⟨by rfl, ?_⟩) ?_
          rotate_left
          · intro w hSw; (try dsimp only at hSw); go_simp; try with_reducible rfl
          try simp only [Act.put, List.setIfInBounds_toArray, List.set_cons_zero, List.set_cons_succ]
          refine J.J_take (i := 3) (v := ?_) LAST (by rfl) (by decide) (by kernel_rfl) (by kernel_rfl) (by intro _ _ _ h; exact h) HS (Or.inl ⟨by rfl, ?_⟩) ?_
          rotate_left
          · intro w hSw; (try dsimp only at hSw); go_simp; try with_reducible rfl
          try simp only [Act.put, List.setIfInBounds_toArray, List.set_cons_zero, List.set_cons_succ]
          refine J.J_take (i := 4) (v := ?_) LAST (by rfl) (by decide) (by kernel_rfl) (by kernel_rfl) (by intro _ _ _ h; exact h) HS (Or.inl ⟨by rfl, ?_⟩) ?_
          rotate_left
          · intro w hSw; (try dsimp only at hSw); go_simp; try with_reducible rfl
          try simp only [Act.put, List.setIfInBounds_toArray, List.set_cons_zero, List.set_cons_succ]
          refine J.J_take (i := 5) (v := ?_) LAST (by rfl) (by decide) (by kernel_rfl) (by kernel_rfl) (by intro _ _ _ h; exact h) HS (Or.inl ⟨by rfl, ?_⟩) ?_
          rotate_left
          · intro w hSw; (try dsimp only at hSw); go_simp; try with_reducible rfl
          try simp only [Act.put, List.setIfInBounds_toArray, List.set_cons_zero, List.set_cons_succ]
          refine J.J_take (i := 6) (v := ?_) LAST (by rfl) (by decide) (by kernel_rfl) (by kernel_rfl) (by intro _ _ _ h; exact h) HS (Or.inl ⟨by rfl, ?_⟩) ?_
          rotate_left
          · intro w hSw; (try dsimp only at hSw); go_simp; try with_reducible rfl
          try simp only [Act.put, List.setIfInBounds_toArray, List.set_cons_zero, List.set_cons_succ]
          refine J.J_take (i := 7) (v := ?_) LAST (by rfl) (by decide) (by kernel_rfl) (by kernel_rfl) (by intro _ _ _ h; exact h) HS (Or.inl ⟨by rfl, ?_⟩) ?_
          rotate_left
          · intro w hSw; (try dsimp only at hSw); go_simp; try with_reducible rfl
          try simp only [Act.put, List.setIfInBounds_toArray, List.set_cons_zero, List.set_cons_succ]
          refine J.J_take (i := 8) (v := ?_) LAST (by rfl) (by decide) (by kernel_rfl) (by kernel_rfl) (by intro _ _ _ h; exact h) HS (Or.inl ⟨by rfl, ?_⟩) ?_
          rotate_left
          · intro w hSw; (try dsimp only at hSw); go_simp; try with_reducible rfl
          try simp only [Act.put, List.setIfInBounds_toArray, List.set_cons_zero, List.set_cons_succ]
          refine J.J_take (i := 9) (v := ?_) LAST (by rfl) (by decide) (by kernel_rfl) (by kernel_rfl) (by intro _ _ _ h; exact h) HS (Or.inl ⟨by rfl, ?_⟩) ?_
          rotate_left
          · intro w hSw; (try dsimp only at hSw); go_simp; try with_reducible rfl
          try simp only [Act.put, List.setIfInBounds_toArray, List.set_cons_zero, List.set_cons_succ]
          refine J.J_take (i := 10) (v := ?_) LAST (by rfl) (by decide) (by kernel_rfl) (by kernel_rfl) (by intro _ _ _ h; exact h) HS (Or.inl ⟨by rfl, ?_⟩) ?_
          rotate_left
          · intro w hSw; (try dsimp only at hSw); go_simp; try with_reducible rfl
          try simp only [Act.put, List.setIfInBounds_toArray, List.set_cons_zero, List.set_cons_succ]
          refine J.J_take (i := 11) (v := ?_) LAST (by rfl) (by decide) (by kernel_rfl) (by kernel_rfl) (by intro _ _ _ h; exact h) HS (Or.inl ⟨by rfl, ?_⟩) ?_
          rotate_left
          · intro w hSw; (try dsimp only at hSw); go_simp; try with_reducible rfl
          try simp only [Act.put, List.setIfInBounds_toArray, List.set_cons_zero, List.set_cons_succ]
          refine J.J_take (i := 12) (v := ?_) LAST (by rfl) (by decide) (by kernel_rfl) (by kernel_rfl) (by intro _ _ _ h; exact h) HS (Or.inl ⟨by rfl, ?_⟩) ?_
          rotate_left
          · intro w hSw; (try dsimp only at hSw); go_simp; try with_reducible rfl
          try simp only [Act.put, List.setIfInBounds_toArray, List.set_cons_zero, List.set_cons_succ]
          refine J.J_one (i := 13) (by rfl) (by decide) (by kernel_rfl) (fun KK hK => ?_)
          go_simp
          refine (rest_some _ (m2 : Int) _ (by omega) (by omega)).mono ?_
          rintro e w' ⟨r4, hr4, -, rfl, rfl⟩
          obtain ⟨y, hy⟩ : ∃ y, y = 1000 + (r4 : Int) := ⟨_, rfl⟩
          have hwy : IntKind.i64.wrap (1000 + (r4 : Int)) = y := by rw [IntWalk.i64_in _ (by omega)]; omega
          clear hy
          go_simp
          refine hK.out _ _ HS ?_
          clear hK KK
          try simp only [List.setIfInBounds_toArray]
          refine J.J_take (i := 14) (v := ?_) LAST (by rfl) (by decide) (by kernel_rfl) (by kernel_rfl) (by intro _ _ _ h; exact h) HS (Or.inl ⟨by rfl, ?_⟩) ?_
          rotate_left
          · intro w hSw; (try dsimp only at hSw); go_simp; try with_reducible rfl
          try simp only [Act.put, List.setIfInBounds_toArray, List.set_cons_zero, List.set_cons_succ]
          refine J.J_one (i := 15) (by rfl) (by decide) (by kernel_rfl) (fun KK hK => ?_)
          go_simp
          have VA := hid (show Upd [] wr ((wr.alloc (.cells #[.int .i64 y] 3)).drew) from ((Upd.refl [] wr).alloc _).drew)
          refine hK.out _ _ (KEEP.out _ VA.out) ?_
          clear hK KK HS
          try simp only [List.setIfInBounds_toArray]
          have OV := hid (own_new HV.out VA.out)
          have hq3 : q.length ≤ 4 := by have := HQL.out; omega
          refine J.J_one (i := 16) (by rfl) (by decide) (by kernel_rfl) (fun KK hK => ?_)
          refine J.step_app rfl (.tmp 36) (.tmp 50) 22 rfl M2 3 i3 _ 1 8 Try.underlying22 HI3.out HA3.out HB3.out HC3.out rfl (by decide) (.slice ar q.length kr) q.length (ints q) (by rfl) OV.out ⟨wr.heap.size, 0, none⟩ 1 1 [.int .i64 y] (by rfl) rfl (fun j u hj => by rw [addz]; refine (K.blk_cell (K.blk_new wr _) j).trans ?_; simpa using hj) (by intro u hu; simp at hu; subst hu; rfl) (by unfold maxLen; omega) (by omega) (by have := HMM.out; have := VA.out.size; omega) ?_
          intro v5 w5 ho5 hu5 hl5
          obtain ⟨a5, k5, e5, -⟩ := own_view ho5
          subst e5
          have hXn : X ∉ (Value.slice ar q.length kr).ownBlock.toList := fun hs => own_cells_ne HV.out HXB.out (by decide) X (by simpa using hs) rfl
          have X5 := hid (hu5.blk (VA.out.blk HXB.out (by simp)) hXn)
          have O5 := hid ho5
          have U5 := hid hu5
          clear ho5 hu5 hl5 hXn
          have HS5 : w5.cell? ⟨X, 3, none⟩ = some (.slice ar q.length kr) := K.blk_cell X5.out 3
          refine hK.out _ _ HS5 ?_
          clear hK KK
          try simp only [Act.put, List.setIfInBounds_toArray, List.set_cons_zero, List.set_cons_succ]
          refine J.J_take (i := 17) (v := ?_) LAST (by rfl) (by decide) (by kernel_rfl) (by kernel_rfl) (by intro _ _ _ h; exact h) HS5 (Or.inl ⟨by rfl, ?_⟩) ?_
          rotate_left
          · intro w hSw; (try dsimp only at hSw); go_simp; try with_reducible rfl
          try simp only [Act.put, List.setIfInBounds_toArray, List.set_cons_zero, List.set_cons_succ]
          refine J.J_last (by rfl) (by kernel_rfl) (by kernel_rfl) ?_
          have cz := HS5
          have fz := K.blk_frozen X5.out 3
          clear LAST
          go_simp
          go_wp2_with fail
          go_roundg (c - (j + 1))
          case measure => have := Hj.out; have := HJ.out; omega
          case rel =>
            obtain ⟨w6, hw6⟩ : ∃ w6, w6 = w5.setCell ⟨X, 3, none⟩ (.slice a5 (q.length + 1) k5) := ⟨_, rfl⟩
            have us : Upd [X] w5 w6 := by rw [hw6]; exact (Upd.refl _ w5).setCell (.inl (by simp)) _
            rw [← hw6]
            have hmm := HMM.out
            have hmx := MX.out
            have hs2 := S2.out
            have hm2 := HM2.out
            have o1 := own_new HO.out VA.out
            have o2 := own_upd o1 U5.out (fun z hz hs => own_own_ne o1 OV.out (by decide) z hz z (by simpa using hs) rfl)
            have r1 := HR.out.new VA.out
            have r2 : RefsAt w5 L M := r1.keep U5.out (fun r cur hlt _ hs => by have := own_ge OV.out r (by simpa using hs); omega) (Nat.le_refl _)
            refine ⟨j + 1, q ++ [y], .slice a5 (q.length + 1) k5, by go_num, HJ.out, hid (Nat.add_sub_of_le HJ.out), hid (by rw [List.length_append, HQL.out]; rfl), hid ?_, hid ?_, hid ?_, hid ?_, hid ?_, hid ?_⟩
            · rw [hw6]; exact (K.blk_set X5.out 3 _).trans rfl
            · rw [List.length_append, ints_snoc]
              exact own_upd O5.out us (fun z hz hs => by simp at hs; subst hs; exact own_cells_ne O5.out X5.out (by decide) z hz rfl)
            · exact own_upd o2 us (fun z hz hs => by simp at hs; subst hs; have := A3X.out z hz; omega)
            · exact r2.keep us (fun r cur hlt _ hs => by simp at hs; omega) (Nat.le_refl _)
            · have := VA.out.size
              have := U5.out.size
              have := us.size
              omega
            · refine ((HU.out.trans VA.out (fun t ht => by cases ht)).trans U5.out (fun t ht => .inr ?_)).trans us (fun t ht => .inr ?_)
              · have := own_ge OV.out t (by simpa using ht)
                have := HBS.out
                omega
              · simp at ht
                subst ht
                have := HBS.out
                omega
        · have hnj : ¬ (j : Int) < (c : Int) := by omega
          have c0 := (K.blk_cell HXB.out 0).trans rfl
          have c1 := (K.blk_cell HXB.out 1).trans rfl
          have c2 := (K.blk_cell HXB.out 2).trans rfl
          have c3 := (K.blk_cell HXB.out 3).trans rfl
          have hbw : B ≤ wr.heap.size := by have := HMM.out; have := HM2.out; have := S2.out; have := MX.out; omega
          go_wp2_with (first | (at_builtin; refine wpList_app (W := wr) rfl (.tmp 54) (.tmp 56) 24 rfl B 31 i31 _ 4 40 Try.underlying24 HI31.out HA31.out HB31.out HC31.out rfl (by decide) (.slice a3 i k3) i (kcells L) rfl HO.out [.int .i64 rf, .bool aw, .bool ro, .slice ar q.length kr] 31 (by first | rfl | (rw [World.size_alloc]; rfl)) rfl (by intro u hu; simp at hu; rcases hu with rfl | rfl | rfl | rfl <;> rfl) (by omega) (by omega) hbw ?_; intro v7 w7 ho7 hu7 hl7; have HO7 := hid ho7; have HU7 := hid hu7; clear ho7 hu7 hl7))
          go_roundg (m - (i + 1))
          case measure => have := Hd.out; have := HIM.out; omega
          case rel =>
            have hmx := MX.out
            have hmm := HMM.out
            have hs2 := S2.out
            have hm2 := HM2.out
            have rr : RefRow wr (.slice ar q.length kr) q wr.heap.size := RefRow.of_own HV.out (Nat.le_refl _)
            have ra : RefsAt wr (L ++ [(⟨rf, aw, ro, q⟩, .slice ar q.length kr)]) wr.heap.size := (HR.out.keep (Upd.refl [] wr) (fun _ _ _ _ hs => by cases hs) (by omega)).snoc rr (by have := HQL.out; show q.length ≤ 100; omega)
            refine ⟨i + 1, L ++ [(⟨rf, aw, ro, q⟩, .slice ar q.length kr)], wr.heap.size, by go_num, HIM.out, hid (Nat.add_sub_of_le HIM.out), hid (by rw [List.length_append, HLN.out]; rfl), hid ?_, hid ⟨?_, HU7.out.size⟩, hid (fun j hj => ?_), hid ?_⟩
            · rw [kcells_snoc]; exact HO7.out
            · exact ra.keep HU7.out (fun r cur _ hb hs => own_cells_ne HO.out hb (by decide) r (by simpa using hs) rfl) (Nat.le_refl _)
            · by_cases cj : j < L.length
              · rw [List.getD_eq_getElem?_getD, List.getElem?_append_left cj, ← List.getD_eq_getElem?_getD]
                exact HF.out j cj
              · have ej : j = L.length := by rw [List.length_append] at hj; simp at hj; omega
                subst ej
                rw [List.getD_eq_getElem?_getD, List.getElem?_append_right (Nat.le_refl _)]
                simp only [Nat.sub_self, List.getElem?_cons_zero, Option.getD_some]
                rw [HRF.out, HLN.out]
            · exact HU.out.trans HU7.out (fun t ht => .inr (by have := own_ge HO.out t (by simpa using ht); have := HBS.out; omega))
    · have hni : ¬ (i : Int) < (m : Int) := by omega
      have ei : i = m := by omega
      go_wp2_with fail
      go_ret
      exact ⟨_, rfl, ⟨L, by rw [HLN.out, ei]; rw [ei] at HO; exact HO.out, ⟨M, HR.out.1⟩, by rw [HLN.out]; omega, HF.out⟩, HU.out⟩
end Go.Proofs.Ytgocminfohbedaa.Cy
