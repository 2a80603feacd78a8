/- The walk of the statement NamesApart. -/
import Derived.Test.YtbkhjmdklghbiaaDoorNr
namespace Go.Proofs.YtbkhjmdklghbiaaDoor.Nm
open Go Go.RowKit Go.Proofs.YtbkhjmdklghbiaaDoor Go.Proofs.YtbkhjmdklghbiaaDoor.K Go.Proofs.YtbkhjmdklghbiaaDoor.M Go.Proofs.YtbkhjmdklghbiaaDoor.O Go.Proofs.YtbkhjmdklghbiaaDoor.R

set_option maxHeartbeats 16000000 in
set_option maxRecDepth 100000 in
theorem apart_walk (a : Option Addr) (len cap : Nat) (xs : List Int) (ref : Int) (w : World) (hx : IntRow w a xs) (hl : xs.length = len) (hlc : len ≤ cap) (hc : cap ≤ 9223372036854775807) :
    Calls Tryd.prog 6 #[.slice a len cap, .int .i64 ref] w fun e w' => e = .returned (.bool true) ∧ Upd [] w w' := by
  have RG := fun w1 (u : Upd [] w w1) => hid (register_any 1 a len cap xs w1 (by decide) (by decide) (hx.upd u) hl hlc hc)
  clear hx hl hlc hc
  go_enter Tryd.func6, Tryd.ntmps6
  go_wp2_with fail
  refine (begun_true w).mono ?_
  rintro e w1 ⟨rfl, hu1⟩
  have U1 := hid hu1
  have RG' := hid (RG w1 hu1)
  clear hu1 RG
  go_wp2_with fail
  refine RG'.out.out.mono ?_
  rintro e w2 ⟨v, rfl, ⟨g, s, ho, hn, hb⟩, hu2⟩
  obtain ⟨q, k, e, c2⟩ := ptr_at ho (i := 0) (by decide)
  subst e
  obtain ⟨B, hB⟩ : ∃ B, B = w1.heap.size := ⟨_, rfl⟩
  rw [← hB] at hn
  obtain ⟨s0, hs0⟩ : ∃ s0, s0 = s 0 := ⟨_, rfl⟩
  have HB := hid (hb 0 (by decide))
  rw [← hs0] at HB
  have HN := hid hn
  have HS0 := hid hs0
  have HBS := hid hB
  have U2 := hid (U1.out.trans hu2 (fun x hx => by cases hx))
  have HBL := hid (show w.heap.size ≤ B by rw [hB]; exact U1.out.size)
  have BW := hid (show B ≤ w2.heap.size by rw [hB]; exact hu2.size)
  have HLZ := hid (lt_z HB.out.ok.wf HB.out.zz)
  have AL := hid (net_all' hn (i := 0) (by decide) (by rw [← hs0]; exact HB.out.ok))
  rw [← hs0] at AL
  clear ho hn hb hu2 RG' hB hs0
  go_wp2_with fail
  refine AL.out.mono ?_
  rintro e w3 ⟨a7, k7, rfl, hk7, hk7', h7, hb7, hu3⟩
  obtain ⟨m, hm⟩ : ∃ m, m = (allOf s0.rows).length := ⟨_, rfl⟩
  rw [← hm] at hk7 ⊢
  have HM := hid hm
  have hm8 : m ≤ 7 := by rw [hm]; have := allOf_le s0.rows; have := HB.out.ok.wf.few; omega
  have HN3 := hid (HN.out.more hu3 _ hb7)
  have H7 := hid h7
  have U3 := hid (U2.out.trans hu3 (fun x hx => by cases hx))
  have BW3 := hid (show B ≤ w3.heap.size by have := hu3.size; have := BW.out; omega)
  have c3 := hu3.cell c2 (by simp)
  clear HN hb7 h7 hu3 AL c2 hm
  have hq : q ∈ blkOf a7 ++ (Value.slice (some ⟨q, 0, none⟩) 1 k).ownBlock.toList := by simp [Value.ownBlock]
  have hq7 : ∀ z ∈ blkOf a7, z ∈ blkOf a7 ++ (Value.slice (some ⟨q, 0, none⟩) 1 k).ownBlock.toList := fun z hz => List.mem_append.2 (.inl hz)
  obtain ⟨Z, hZ⟩ : ∃ Z, Z = blkOf a7 ++ (Value.slice (some ⟨q, 0, none⟩) 1 k).ownBlock.toList := ⟨_, rfl⟩
  rw [← hZ] at HN3 hq hq7
  have HQ := hid hq
  have HQ7 := hid hq7
  clear hZ hq hq7
  go_upto_region 7 with (fail)
  refine J.J_begin (fun wz => wz.cell? ⟨q, 0, none⟩ = some (.pointer (some ⟨g 0, 0, none⟩))) 7 (by kernel_rfl) ⟨by kernel_rfl, by kernel_rfl, by kernel_rfl⟩ c3 (fun LAST HS => ?_)
  refine J.J_take (i := 0) (v := ?_) LAST (by rfl) (by decide) (by kernel_rfl) (by kernel_rfl) (by intro _ _ _ h; exact h) HS (Or.inl ⟨by rfl, ?_⟩) ?_
  rotate_left
  · intro w hSw; (try dsimp only at hSw); go_simp; try with_reducible rfl
  try simp only [Act.put, List.setIfInBounds_toArray, List.set_cons_zero, List.set_cons_succ]
  refine J.J_take (i := 1) (v := ?_) LAST (by rfl) (by decide) (by kernel_rfl) (by kernel_rfl) (by intro _ _ _ h; exact h) HS (Or.inl ⟨by rfl, ?_⟩) ?_
  rotate_left
  · intro w hSw; (try dsimp only at hSw); go_simp; try with_reducible rfl
  try simp only [Act.put, List.setIfInBounds_toArray, List.set_cons_zero, List.set_cons_succ]
  refine J.J_take (i := 2) (v := ?_) LAST (by rfl) (by decide) (by kernel_rfl) (by kernel_rfl) (by intro _ _ _ h; exact h) HS (Or.inl ⟨by rfl, ?_⟩) ?_
  rotate_left
  · intro w hSw; (try dsimp only at hSw); go_simp; try with_reducible rfl
  try simp only [Act.put, List.setIfInBounds_toArray, List.set_cons_zero, List.set_cons_succ]
  refine J.J_take (i := 3) (v := ?_) LAST (by rfl) (by decide) (by kernel_rfl) (by kernel_rfl) (by intro _ _ _ h; exact h) HS (Or.inl ⟨by rfl, ?_⟩) ?_
  rotate_left
  · intro w hSw; (try dsimp only at hSw); go_simp; try with_reducible rfl
  try simp only [Act.put, List.setIfInBounds_toArray, List.set_cons_zero, List.set_cons_succ]
  refine J.J_one (i := 4) (by rfl) (by decide) (by kernel_rfl) (fun KK hK => ?_)
  go_simp
  refine (rest_some _ _ _ (by omega) (by omega)).mono ?_
  rintro e w' ⟨rf, hrf, HR, rfl, rfl⟩
  go_simp
  refine hK.out _ _ HS ?_
  clear hK KK
  try simp only [List.setIfInBounds_toArray]
  obtain ⟨rr, hrr⟩ : ∃ rr : Nat, rr = 1 + rf := ⟨_, rfl⟩
  have hw : IntKind.i64.wrap (1 + (rf : Int)) = (rr : Int) := by rw [IntWalk.i64_in _ (by omega)]; omega
  have hr1 : 1 ≤ rr := by omega
  clear hrr
  refine J.J_take (i := 5) (v := ?_) LAST (by rfl) (by decide) (by kernel_rfl) (by kernel_rfl) (by intro _ _ _ h; exact h) HS (Or.inl ⟨by rfl, ?_⟩) ?_
  rotate_left
  · intro w hSw; (try dsimp only at hSw); go_simp; try with_reducible rfl
  try simp only [Act.put, List.setIfInBounds_toArray, List.set_cons_zero, List.set_cons_succ]
  refine J.J_one (i := 6) (by rfl) (by decide) (by kernel_rfl) (fun KK hK => ?_)
  go_simp
  have ST := net_set (HN3.out.new ((Upd.refl [] w3).drew)) (i := 0) (by decide) BW3.out (by rw [← HS0.out]; exact HB.out.ok) (by decide) 6 rr (by decide) hr1
  rw [zz_str, ← HS0.out] at ST
  refine ST.mono ?_
  rintro e w4 ⟨rfl, hn4, hf4⟩
  have c4 := hf4.cell c3 HQ.out
  have HN4 := hid hn4
  have H74 := hid ((H7.out.new ((Upd.refl [] w3).drew)).far hf4 HQ7.out)
  have U4 := hid (hf4.upd_le HBL.out U3.out.drew)
  have BW4 := hid (Nat.le_trans BW3.out hf4.size)
  go_simp
  refine hK.out _ _ c4 ?_
  clear hK KK
  try simp only [List.setIfInBounds_toArray]
  refine J.J_last (by rfl) (by kernel_rfl) (by kernel_rfl) ?_
  clear LAST HS
  go_simp
  have e1 : upf s 0 (gset s0 6 rr) 0 = gset s0 6 rr := upf_at _ _ _
  have OK1 := hid (HB.out.ok.gset (t := 6) (r := rr) (by decide))
  have er := rput_z HLZ.out ⟨6, rr, s0.count + 1, s0.me⟩ rfl
  have ROWS1 := hid (show (gset s0 6 rr).rows = s0.rows ++ [⟨6, rr, s0.count + 1, s0.me⟩] from er)
  have ALL1 := hid (show allOf (gset s0 6 rr).rows = allOf s0.rows ++ [(6, rr)] by
    rw [ROWS1.out, allOf_app]
    congr 1
    unfold allOf
    rw [List.filter_cons_of_pos (by simp; omega)]
    rfl)
  have AL := net_all' hn4 (i := 0) (by decide) (by rw [e1]; exact OK1.out)
  rw [e1, ALL1.out, List.length_append, ← HM.out] at AL
  have AL' := hid AL
  clear hn4 hf4 AL ST e1 er
  go_wp2_with fail
  refine AL'.out.mono ?_
  rintro e w5 ⟨a8, k8, rfl, hk8, hk8', h8, hb8, hu5⟩
  have HN5 := hid (HN4.out.new hu5)
  have H8 := hid h8
  have H75 := hid (H74.out.new hu5)
  have U5 := hid (U4.out.trans hu5 (fun x hx => by cases hx))
  have BW5 := hid (show B ≤ w5.heap.size by have := hu5.size; have := BW4.out; omega)
  have c5 := hu5.cell c4 (by simp)
  have cz := h8 m (by rw [List.length_append, ← HM.out]; simp)
  have eg : (allOf s0.rows ++ [(6, rr)]).getD m noNm = (6, rr) := by rw [HM.out]; simp [List.getD_eq_getElem?_getD]
  rw [eg] at cz
  obtain ⟨q8, rfl, d0, d1⟩ := cz
  simp only [zz_str] at d0 d1
  clear h8 hb8 hu5 AL' c4 HN3 HN4 c3 H74 H7
  try simp only [List.length_singleton]
  go_upto_region 10 with (fail)
  have hw5 : IntKind.i64.wrap ((m : Int) + 1) = (m : Int) + 1 := IntWalk.i64_in _ (by omega)
  have hi1 : (m : Int) < (m : Int) + 1 := by omega
  have hi2 : (m : Int) < ((m + 1 : Nat) : Int) := by omega
  have hs1 : (m : Int) ≤ (k8 : Int) := by omega
  have hneq := fun w => neq47 (⟨#[122, 122]⟩ : ByteArray) (rr : Int) w
  refine J.J_begin (fun wz => wz.cell? ⟨q8, m * 2, none⟩ = some (.string (⟨#[122, 122]⟩ : ByteArray)) ∧ wz.cell? ⟨q8, m * 2 + 1, none⟩ = some (.int .i64 (rr : Int))) 26 (by kernel_rfl) ⟨by kernel_rfl, by kernel_rfl, by kernel_rfl⟩ ⟨d0, d1⟩ (fun LAST HS => ?_)
  refine J.J_take (i := 0) (v := ?_) LAST (by rfl) (by decide) (by kernel_rfl) (by kernel_rfl) (by intro _ _ _ h; exact h) HS (Or.inl ⟨by rfl, ?_⟩) ?_
  rotate_left
  · intro w hSw; (try dsimp only at hSw); go_simp; try with_reducible rfl
  try simp only [Act.put, List.setIfInBounds_toArray, List.set_cons_zero, List.set_cons_succ]
  refine J.J_take (i := 1) (v := ?_) LAST (by rfl) (by decide) (by kernel_rfl) (by kernel_rfl) (by intro _ _ _ h; exact h) HS (Or.inl ⟨by rfl, ?_⟩) ?_
  rotate_left
  · intro w hSw; (try dsimp only at hSw); go_simp; try with_reducible rfl
  try simp only [Act.put, List.setIfInBounds_toArray, List.set_cons_zero, List.set_cons_succ]
  refine J.J_take (i := 2) (v := ?_) LAST (by rfl) (by decide) (by kernel_rfl) (by kernel_rfl) (by intro _ _ _ h; exact h) HS (Or.inl ⟨by rfl, ?_⟩) ?_
  rotate_left
  · intro w hSw; (try dsimp only at hSw); go_simp; try with_reducible rfl
  try simp only [Act.put, List.setIfInBounds_toArray, List.set_cons_zero, List.set_cons_succ]
  refine J.J_take (i := 3) (v := ?_) LAST (by rfl) (by decide) (by kernel_rfl) (by kernel_rfl) (by intro _ _ _ h; exact h) HS (Or.inl ⟨by rfl, ?_⟩) ?_
  rotate_left
  · intro w hSw; (try dsimp only at hSw); go_simp; try with_reducible rfl
  try simp only [Act.put, List.setIfInBounds_toArray, List.set_cons_zero, List.set_cons_succ]
  refine J.J_take (i := 4) (v := ?_) LAST (by rfl) (by decide) (by kernel_rfl) (by kernel_rfl) (by intro _ _ _ h; exact h) HS (Or.inl ⟨by rfl, ?_⟩) ?_
  rotate_left
  · intro w hSw; (try dsimp only at hSw); go_simp; try with_reducible rfl
  try simp only [Act.put, List.setIfInBounds_toArray, List.set_cons_zero, List.set_cons_succ]
  refine J.J_take (i := 5) (v := ?_) LAST (by rfl) (by decide) (by kernel_rfl) (by kernel_rfl) (by intro _ _ _ h; exact h) HS (Or.inl ⟨by rfl, ?_⟩) ?_
  rotate_left
  · intro w hSw; (try dsimp only at hSw); go_simp; try with_reducible rfl
  try simp only [Act.put, List.setIfInBounds_toArray, List.set_cons_zero, List.set_cons_succ]
  refine J.J_take (i := 6) (v := ?_) LAST (by rfl) (by decide) (by kernel_rfl) (by kernel_rfl) (by intro _ _ _ h; exact h) HS (Or.inl ⟨by rfl, ?_⟩) ?_
  rotate_left
  · intro w hSw; (try dsimp only at hSw); go_simp; try with_reducible rfl
  try simp only [Act.put, List.setIfInBounds_toArray, List.set_cons_zero, List.set_cons_succ]
  refine J.J_take (i := 7) (v := ?_) LAST (by rfl) (by decide) (by kernel_rfl) (by kernel_rfl) (by intro _ _ _ h; exact h) HS (Or.inl ⟨by rfl, ?_⟩) ?_
  rotate_left
  · intro w hSw; (try dsimp only at hSw); go_simp; try with_reducible rfl
  try simp only [Act.put, List.setIfInBounds_toArray, List.set_cons_zero, List.set_cons_succ]
  refine J.J_take (i := 8) (v := ?_) LAST (by rfl) (by decide) (by kernel_rfl) (by kernel_rfl) (by intro _ _ _ h; exact h) HS (Or.inl ⟨by rfl, ?_⟩) ?_
  rotate_left
  · intro w hSw; (try dsimp only at hSw); go_simp; try with_reducible rfl
  try simp only [Act.put, List.setIfInBounds_toArray, List.set_cons_zero, List.set_cons_succ]
  refine J.J_take (i := 9) (v := ?_) LAST (by rfl) (by decide) (by kernel_rfl) (by kernel_rfl) (by intro _ _ _ h; exact h) HS (Or.inl ⟨by rfl, ?_⟩) ?_
  rotate_left
  · intro w hSw; (try dsimp only at hSw); go_simp; try with_reducible rfl
  try simp only [Act.put, List.setIfInBounds_toArray, List.set_cons_zero, List.set_cons_succ]
  refine J.J_take (i := 10) (v := ?_) LAST (by rfl) (by decide) (by kernel_rfl) (by kernel_rfl) (by intro _ _ _ h; exact h) HS (Or.inl ⟨by rfl, ?_⟩) ?_
  rotate_left
  · intro w hSw; (try dsimp only at hSw); go_simp; try with_reducible rfl
  try simp only [Act.put, List.setIfInBounds_toArray, List.set_cons_zero, List.set_cons_succ]
  refine J.J_take (i := 11) (v := ?_) LAST (by rfl) (by decide) (by kernel_rfl) (by kernel_rfl) (by intro _ _ _ h; exact h) HS (Or.inl ⟨by rfl, ?_⟩) ?_
  rotate_left
  · intro w hSw; obtain ⟨hS1, hS2⟩ := hSw; go_simp; try with_reducible rfl
  try simp only [Act.put, List.setIfInBounds_toArray, List.set_cons_zero, List.set_cons_succ]
  refine J.J_take (i := 12) (v := ?_) LAST (by rfl) (by decide) (by kernel_rfl) (by kernel_rfl) (by intro _ _ _ h; exact h) HS (Or.inl ⟨by rfl, ?_⟩) ?_
  rotate_left
  · intro w hSw; (try dsimp only at hSw); go_simp; try with_reducible rfl
  try simp only [Act.put, List.setIfInBounds_toArray, List.set_cons_zero, List.set_cons_succ]
  refine J.J_one (i := 13) (by rfl) (by decide) (by kernel_rfl) (fun KK hK => ?_)
  go_simp
  refine (rest_some _ _ _ (by omega) (by omega)).mono ?_
  rintro e w' ⟨rf2, hrf2, HR2, rfl, rfl⟩
  obtain rfl : rf2 = rf := HR2.out.trans HR.out.symm
  go_simp
  refine hK.out _ _ HS ?_
  clear hK KK
  try simp only [List.setIfInBounds_toArray]
  refine J.J_take (i := 14) (v := ?_) LAST (by rfl) (by decide) (by kernel_rfl) (by kernel_rfl) (by intro _ _ _ h; exact h) HS (Or.inl ⟨by rfl, ?_⟩) ?_
  rotate_left
  · intro w hSw; (try dsimp only at hSw); go_simp; try with_reducible rfl
  try simp only [Act.put, List.setIfInBounds_toArray, List.set_cons_zero, List.set_cons_succ]
  refine J.J_take (i := 15) (v := ?_) LAST (by rfl) (by decide) (by kernel_rfl) (by kernel_rfl) (by intro _ _ _ h; exact h) HS (Or.inl ⟨by rfl, ?_⟩) ?_
  rotate_left
  · intro w hSw; (try dsimp only at hSw); go_simp; try with_reducible rfl
  try simp only [Act.put, List.setIfInBounds_toArray, List.set_cons_zero, List.set_cons_succ]
  refine J.J_take (i := 16) (v := ?_) LAST (by rfl) (by decide) (by kernel_rfl) (by kernel_rfl) (by intro _ _ _ h; exact h) HS (Or.inl ⟨by rfl, ?_⟩) ?_
  rotate_left
  · intro w hSw; (try dsimp only at hSw); go_simp; try with_reducible rfl
  try simp only [Act.put, List.setIfInBounds_toArray, List.set_cons_zero, List.set_cons_succ]
  refine J.J_take (i := 17) (v := ?_) LAST (by rfl) (by decide) (by kernel_rfl) (by kernel_rfl) (by intro _ _ _ h; exact h) HS (Or.inl ⟨by rfl, ?_⟩) ?_
  rotate_left
  · intro w hSw; (try dsimp only at hSw); go_simp; try with_reducible rfl
  try simp only [Act.put, List.setIfInBounds_toArray, List.set_cons_zero, List.set_cons_succ]
  refine J.J_take (i := 18) (v := ?_) LAST (by rfl) (by decide) (by kernel_rfl) (by kernel_rfl) (by intro _ _ _ h; exact h) HS (Or.inl ⟨by rfl, ?_⟩) ?_
  rotate_left
  · intro w hSw; (try dsimp only at hSw); go_simp; try with_reducible rfl
  try simp only [Act.put, List.setIfInBounds_toArray, List.set_cons_zero, List.set_cons_succ]
  refine J.J_take (i := 19) (v := ?_) LAST (by rfl) (by decide) (by kernel_rfl) (by kernel_rfl) (by intro _ _ _ h; exact h) HS (Or.inl ⟨by rfl, ?_⟩) ?_
  rotate_left
  · intro w hSw; (try dsimp only at hSw); go_simp; try with_reducible rfl
  try simp only [Act.put, List.setIfInBounds_toArray, List.set_cons_zero, List.set_cons_succ]
  refine J.J_take (i := 20) (v := ?_) LAST (by rfl) (by decide) (by kernel_rfl) (by kernel_rfl) (by intro _ _ _ h; exact h) HS (Or.inl ⟨by rfl, ?_⟩) ?_
  rotate_left
  · intro w hSw; (try dsimp only at hSw); go_simp; try with_reducible rfl
  try simp only [Act.put, List.setIfInBounds_toArray, List.set_cons_zero, List.set_cons_succ]
  refine J.J_take (i := 21) (v := ?_) LAST (by rfl) (by decide) (by kernel_rfl) (by kernel_rfl) (by intro _ _ _ h; exact h) HS (Or.inl ⟨by rfl, ?_⟩) ?_
  rotate_left
  · intro w hSw; (try dsimp only at hSw); go_simp; try with_reducible rfl
  try simp only [Act.put, List.setIfInBounds_toArray, List.set_cons_zero, List.set_cons_succ]
  refine J.J_take (i := 22) (v := ?_) LAST (by rfl) (by decide) (by kernel_rfl) (by kernel_rfl) (by intro _ _ _ h; exact h) HS (Or.inl ⟨by rfl, ?_⟩) ?_
  rotate_left
  · intro w hSw; (try dsimp only at hSw); go_simp; try with_reducible rfl
  try simp only [Act.put, List.setIfInBounds_toArray, List.set_cons_zero, List.set_cons_succ]
  refine J.J_take (i := 23) (v := ?_) LAST (by rfl) (by decide) (by kernel_rfl) (by kernel_rfl) (by intro _ _ _ h; exact h) HS (Or.inl ⟨by rfl, ?_⟩) ?_
  rotate_left
  · intro w hSw; (try dsimp only at hSw); go_simp; try with_reducible rfl
  try simp only [Act.put, List.setIfInBounds_toArray, List.set_cons_zero, List.set_cons_succ]
  have HT8 := hid (show NmAt w5.drew (some ⟨q8, 0, none⟩) (allOf s0.rows) by
    have h := (H8.out.new ((Upd.refl [] w5).drew)).take m
    rwa [HM.out, List.take_left] at h)
  refine J.J_one (i := 24) (by rfl) (by decide) (by kernel_rfl) (fun KK hK => ?_)
  go_simp
  refine (equal_names _ _ m _ _ (allOf s0.rows) w5.drew HT8.out (H75.out.new ((Upd.refl [] w5).drew)) HM.out (by omega)).mono ?_
  rintro e w6 ⟨rfl, hu6⟩
  have U6 := hid ((Upd.refl [] w5).drew.trans hu6 (fun x hx => by cases hx))
  go_simp
  refine hK.out _ _ ⟨hu6.cell d0 (by simp), hu6.cell d1 (by simp)⟩ ?_
  clear hK KK
  try simp only [List.setIfInBounds_toArray]
  refine J.J_take (i := 25) (v := ?_) LAST (by rfl) (by decide) (by kernel_rfl) (by kernel_rfl) (by intro _ _ _ h; exact h) ⟨hu6.cell d0 (by simp), hu6.cell d1 (by simp)⟩ (Or.inl ⟨by rfl, ?_⟩) ?_
  rotate_left
  · intro w hSw; go_simp; try with_reducible rfl
  try simp only [Act.put, List.setIfInBounds_toArray, List.set_cons_zero, List.set_cons_succ]
  refine J.J_last (by rfl) (by kernel_rfl) (by kernel_rfl) ?_
  have c6 := U6.out.cell c5 (by simp)
  have HN6 := hid (HN5.out.new U6.out)
  have H76 := hid (H75.out.new U6.out)
  have U06 := hid (U5.out.trans U6.out (fun x hx => by cases hx))
  have BW6 := hid (show B ≤ w6.heap.size by have := U6.out.size; have := BW5.out; omega)
  clear LAST HS HT8 d0 d1 c5 hu6 hneq U6 HN5 H75 H8
  have e1 : upf s 0 (gset s0 6 rr) 0 = gset s0 6 rr := upf_at _ _ _
  have er1 := hid (show refOf (gset s0 6 rr).rows 6 = rr by rw [ROWS1.out]; exact refOf_z HLZ.out _ rfl)
  have h0 : rr ≠ 0 := by omega
  have ed := hid (show gdrop (gset s0 6 rr) 6 = gset (gset s0 6 rr) 6 0 by unfold gdrop; rw [if_neg (by rw [er1.out]; exact h0)])
  have DR := net_drop HN6.out (i := 0) (by decide) BW6.out (by rw [e1]; exact OK1.out) (by decide) 6 (by decide)
  rw [e1, er1.out, if_neg h0, zz_str, ed.out] at DR
  have DR' := hid DR
  have ROWS2 := hid (show (gset (gset s0 6 rr) 6 0).rows = s0.rows ++ [⟨6, 0, s0.count + 1 + 1, s0.me⟩] by
    show rput (gset s0 6 rr).rows ⟨6, 0, s0.count + 1 + 1, s0.me⟩ = _
    rw [ROWS1.out]
    exact rput_zz HLZ.out _ _ rfl rfl)
  have ALL2 := hid (show allOf (gset (gset s0 6 rr) 6 0).rows = allOf s0.rows by
    rw [ROWS2.out, allOf_app]
    unfold allOf
    simp)
  have OK2 := hid (OK1.out.gset (t := 6) (r := 0) (by decide))
  clear DR e1 h0
  go_simp
  go_wp2_with fail
  refine DR'.out.mono ?_
  rintro e w7 ⟨rfl, hn7, hf7⟩
  have c7 := hf7.cell c6 HQ.out
  have e2 : upf (upf s 0 (gset s0 6 rr)) 0 (gset (gset s0 6 rr) 6 0) 0 = gset (gset s0 6 rr) 6 0 := upf_at _ _ _
  have AL := net_all' hn7 (i := 0) (by decide) (by rw [e2]; exact OK2.out)
  rw [e2, ALL2.out, ← HM.out] at AL
  have AL2 := hid AL
  have HN7 := hid hn7
  have H77 := hid (H76.out.far hf7 HQ7.out)
  have U7 := hid (hf7.upd_le HBL.out U06.out)
  have BW7 := hid (Nat.le_trans BW6.out hf7.size)
  clear AL e2 hn7 hf7 c6 DR' HN6
  go_wp2_with fail
  refine AL2.out.mono ?_
  rintro e w8 ⟨a9, k9, rfl, hk9, hk9', h9, -, hu8⟩
  have EQ := hid (equal_names _ _ m k9 k7 (allOf s0.rows) w8 h9 (H77.out.new hu8) HM.out (by omega))
  have c8 := hu8.cell c7 (by simp)
  have HN8 := hid (HN7.out.new hu8)
  have U8 := hid (U7.out.trans hu8 (fun x hx => by cases hx))
  have BW8 := hid (Nat.le_trans BW7.out hu8.size)
  clear h9 hu8 AL2 c7 HN7
  go_wp2_with fail
  refine EQ.out.mono ?_
  rintro e w9 ⟨rfl, hu9⟩
  have c9 := hu9.cell c8 (by simp)
  have U9 := hid (U8.out.trans hu9 (fun x hx => by cases hx))
  have e2 : upf (upf s 0 (gset s0 6 rr)) 0 (gset (gset s0 6 rr) 6 0) 0 = gset (gset s0 6 rr) 6 0 := upf_at _ _ _
  have DR := net_drop (HN8.out.new hu9) (i := 0) (by decide) (Nat.le_trans BW8.out hu9.size) (by rw [e2]; exact OK2.out) (by decide) 6 (by decide)
  have er2 : refOf (gset (gset s0 6 rr) 6 0).rows 6 = 0 := by rw [ROWS2.out]; exact refOf_z HLZ.out _ rfl
  rw [e2, er2, if_pos rfl, zz_str] at DR
  have DR' := hid DR
  clear DR e2 er2 hu9 c8 EQ HN8
  go_wp2_with fail
  refine DR'.out.mono ?_
  rintro e w10 ⟨rfl, -, hf10⟩
  have U10 := hid (hf10.upd_le HBL.out U9.out)
  clear hf10 DR'
  go_wp2_with fail
  go_ret
  exact ⟨rfl, U10.out⟩
end Go.Proofs.YtbkhjmdklghbiaaDoor.Nm
