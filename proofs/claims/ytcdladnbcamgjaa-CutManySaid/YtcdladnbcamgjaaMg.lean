/- The walk of CutMany. -/
import Derived.Test.YtcdladnbcamgjaaMf
namespace Go.Proofs.Ytcdladnbcamgjaa.CuM
open Go Go.RowKit Go.Proofs.Ytcdladnbcamgjaa Go.Proofs.Ytcdladnbcamgjaa.K Go.Proofs.Ytcdladnbcamgjaa.M Go.Proofs.Ytcdladnbcamgjaa.O Go.Proofs.Ytcdladnbcamgjaa.R Go.Proofs.Ytcdladnbcamgjaa.Ck
open Go.Proofs.Ytcdladnbcamgjaa.Ev Go.Proofs.Ytcdladnbcamgjaa.CL Go.Proofs.Ytcdladnbcamgjaa.CW Go.Proofs.Ytcdladnbcamgjaa.Th Go.Proofs.Ytcdladnbcamgjaa.Cu Go.Proofs.Ytcdladnbcamgjaa.CuT Go.Proofs.Ytcdladnbcamgjaa.Cv Go.Proofs.Ytcdladnbcamgjaa.Hi

set_option maxHeartbeats 8000000 in
set_option maxRecDepth 100000 in
theorem the_walk (a0 : Option Addr) (len0 cap0 : Nat) (z0 : List Int) (i0 j0 : Int) (w : World) (hc0 : len0 ≤ cap0) (hm0 : cap0 ≤ 9223372036854775807) (r0 : IntRow w a0 z0) (e0 : z0.length = len0) :
    Calls Try.prog 8 #[.slice a0 len0 cap0, .int .i64 i0, .int .i64 j0] w fun e w' => e = .returned (.bool true) ∧ Upd [] w w' := by
  obtain ⟨i31, hi31, hz31a, hz31b, hz31c⟩ := info_parts info31
  have HI31 := hid hi31
  have HA31 := hid hz31a
  have HB31 := hid hz31b
  have HC31 := hid hz31c
  clear hi31 hz31a hz31b hz31c
  have R0 := hid r0; have E0 := hid e0
  clear r0 e0
  have c1 := all_quiet (some ⟨w.heap.size, 0, none⟩) 2 0 1 1 1 (w.alloc (.cells #[.int .i64 0, .int .i64 1, .int .i64 0, .int .i64 1, .int .i64 1, .int .i64 0] 31)) (fun k hk => by
    rw [quiet_len] at hk
    have h := fun i => (blk_cell (blk_new w (.cells #[.int .i64 0, .int .i64 1, .int .i64 0, .int .i64 1, .int .i64 1, .int .i64 0] 31)) i)
    rcases (show k = 0 ∨ k = 1 by omega) with rfl | rfl
    · exact ⟨_, rfl, (h 0).trans rfl, (h 1).trans rfl, (h 2).trans rfl⟩
    · exact ⟨_, rfl, (h 3).trans rfl, (h 4).trans rfl, (h 5).trans rfl⟩) (by omega) (by omega) (.inl ⟨rfl, rfl⟩) (by omega) (by omega)
  obtain ⟨m, hm⟩ : ∃ m : Nat, min (len0 : Int) 12 = (m : Int) := ⟨min len0 12, by omega⟩
  have hmin := fun ats ty => min_nat ats ty .i64 .i64 (len0 : Int) 12 m hm
  have hm1 : m ≤ len0 := by omega
  have hm2 : m ≤ 12 := by omega
  clear hm
  go_enter Try.func8, Try.ntmps8
  go_wp2_with fail
  refine c1.mono ?_
  rintro e w1 ⟨rfl, hu⟩
  have U := hid (((Upd.refl [] w).alloc _).trans hu (by simp))
  have R1 := hid (R0.out.upd U.out)
  clear hu c1 R0
  go_wp2_with fail
  refine (hist_any a0 m cap0 (z0.take m) _ (R1.out.take m) (by rw [List.length_take, E0.out]; omega) (by omega) hm0).mono ?_
  rintro e w2 ⟨l, a2, cap2, rfl, hx2, hlc2, hc2, hv, -, hl2, hu⟩
  replace U := hid (U.out.trans hu (by simp))
  have hl12 : l.length ≤ 12 := by omega
  have c2 := all_short a2 cap2 l w2 hx2 hlc2 hc2 hl12 hv
  obtain ⟨q, hq⟩ : ∃ q, q = l.length := ⟨_, rfl⟩
  rw [← hq] at c2 hlc2 hl12 ⊢
  clear hu hx2 hv hl2 hq R1 E0 hmin
  go_wp2_with fail
  refine c2.mono ?_
  rintro e w3 ⟨n3, rfl, h1, h2, hu⟩
  replace U := hid (U.out.trans hu (by simp))
  clear hu c2
  have hn3 : ¬ n3 < q + 1 := by omega
  go_wp2_with fail
  refine (rest_some _ _ _ (by omega) (by omega)).mono ?_
  rintro e w' ⟨na, hna, -, rfl, rfl⟩
  go_wp2_with fail
  refine (rest_some _ _ _ (by omega) (by omega)).mono ?_
  rintro e w' ⟨nb, hnb, -, rfl, rfl⟩
  have hna' : na < 20 := by omega
  have hnb' : nb < 20 := by omega
  go_wp2_with fail
  obtain ⟨B, hB⟩ : ∃ B, B = w.heap.size := ⟨_, rfl⟩
  have HB := hid hB
  clear hB
  go_loopg [12, 56] (na + nb) (fun d v12 v56 wr => ∃ (j : Nat), v56 = .int .i64 (j : Int) ∧ j ≤ na + nb ∧ Hid (j + d = na + nb) ∧ Hid (wr.ownsRow B 31 3 v12 j (evCells (quietL 2 5 na j))) ∧ Hid (Upd [] w wr))
  case atStart => exact ⟨0, rfl, by omega, by show _ = _; omega, World.ownsRow_nil _ _ _ _, U.out⟩
  case round =>
    clear U
    obtain ⟨j, rfl, hjn, Hj, Ho, Hu⟩ := hrel
    by_cases hj : j < na + nb
    · have hj' : (j : Int) < (na : Int) + (nb : Int) := by omega
      by_cases hja : j < na
      · have hx := hid (show (if j < na then 2 else 5) = 2 from if_pos hja)
        go_upto_region 16 with (fail)
        obtain ⟨E, hE⟩ : ∃ E, E = wr.heap.size := ⟨_, rfl⟩
        obtain ⟨W, hW⟩ : ∃ W, W = wr.alloc (.cells #[.int .i64 2, .int .i64 1, .int .i64 0] 31) := ⟨_, rfl⟩
        have hb : W.heap[E]? = some (.cells #[.int .i64 2, .int .i64 1, .int .i64 0] 31 (0, 0)) := by rw [hE, hW]; exact blk_new _ _
        have UW := hid (show Upd [] wr W by rw [hW]; exact (Upd.refl [] wr).alloc _)
        rw [← hW]
        rw [← hE]
        clear hE hW
        have k0 := (blk_cell hb 0).trans rfl
        have k1 := (blk_cell hb 1).trans rfl
        have k2 := (blk_cell hb 2).trans rfl
        have HO := hid (own_new Ho.out UW.out)
        clear hb
        go_wp2_with (at_builtin; refine wpList_app (W := W) rfl (.tmp 64) (.tmp 66) 24 rfl B 31 i31 _ 3 24 Try.underlying24 HI31.out HA31.out HB31.out HC31.out rfl (by decide) u12 j (evCells (quietL 2 5 na j)) rfl HO.out [.int .i64 2, .int .i64 1, .int .i64 0] 31 (by first | rfl | (rw [World.size_alloc]; rfl)) rfl (evVals_one ⟨2, 1, 0⟩) (by omega) (by omega) (by rw [HB.out]; exact Nat.le_trans Hu.out.size UW.out.size) ?_; intro v7 w7 ho7 hu7 hl7; have HO7 := hid ho7; have HU7 := hid hu7; clear ho7 hu7 hl7)
        go_roundg (na + nb - (j + 1))
        case measure => have := Hj.out; omega
        case rel =>
          refine ⟨j + 1, by go_num, by omega, by show _ = _; omega, ?_, ?_⟩
          · rw [quiet_snoc, evCells_snoc, hx.out]; exact HO7.out
          · exact (Hu.out.trans UW.out (by simp)).trans HU7.out (fun t ht => .inr (by rw [← HB.out]; exact own_ge Ho.out t (by simpa using ht)))
      · have hx := hid (show (if j < na then 2 else 5) = 5 from if_neg hja)
        go_upto_region 16 with (fail)
        obtain ⟨E, hE⟩ : ∃ E, E = wr.heap.size := ⟨_, rfl⟩
        obtain ⟨W, hW⟩ : ∃ W, W = wr.alloc (.cells #[.int .i64 5, .int .i64 1, .int .i64 0] 31) := ⟨_, rfl⟩
        have hb : W.heap[E]? = some (.cells #[.int .i64 5, .int .i64 1, .int .i64 0] 31 (0, 0)) := by rw [hE, hW]; exact blk_new _ _
        have UW := hid (show Upd [] wr W by rw [hW]; exact (Upd.refl [] wr).alloc _)
        rw [← hW]
        rw [← hE]
        clear hE hW
        have k0 := (blk_cell hb 0).trans rfl
        have k1 := (blk_cell hb 1).trans rfl
        have k2 := (blk_cell hb 2).trans rfl
        have HO := hid (own_new Ho.out UW.out)
        clear hb
        go_wp2_with (at_builtin; refine wpList_app (W := W) rfl (.tmp 64) (.tmp 66) 24 rfl B 31 i31 _ 3 24 Try.underlying24 HI31.out HA31.out HB31.out HC31.out rfl (by decide) u12 j (evCells (quietL 2 5 na j)) rfl HO.out [.int .i64 5, .int .i64 1, .int .i64 0] 31 (by first | rfl | (rw [World.size_alloc]; rfl)) rfl (evVals_one ⟨5, 1, 0⟩) (by omega) (by omega) (by rw [HB.out]; exact Nat.le_trans Hu.out.size UW.out.size) ?_; intro v7 w7 ho7 hu7 hl7; have HO7 := hid ho7; have HU7 := hid hu7; clear ho7 hu7 hl7)
        go_roundg (na + nb - (j + 1))
        case measure => have := Hj.out; omega
        case rel =>
          refine ⟨j + 1, by go_num, by omega, by show _ = _; omega, ?_, ?_⟩
          · rw [quiet_snoc, evCells_snoc, hx.out]; exact HO7.out
          · exact (Hu.out.trans UW.out (by simp)).trans HU7.out (fun t ht => .inr (by rw [← HB.out]; exact own_ge Ho.out t (by simpa using ht)))
    · obtain rfl : j = na + nb := by omega
      obtain ⟨a9, cap9, rfl, h1, h2, hx9⟩ := evRow_of (l := quietL 2 5 na (na + nb)) (by rw [quiet_len]; exact Ho.out)
      rw [quiet_len] at h1 ⊢
      have c3 := all_quiet a9 cap9 2 5 na nb wr hx9 h1 h2 (.inr ⟨rfl, rfl⟩) hna' hnb'
      clear hx9 h1 h2
      go_wp2_with fail
      refine c3.mono ?_
      rintro e w5 ⟨rfl, hu⟩
      have HU := hid hu
      clear hu c3
      have hmul : ((na : Int) + 1) * ((nb : Int) + 1) = (((na + 1) * (nb + 1) : Nat) : Int) := by simp
      have hlt : (na + 1) * (nb + 1) ≤ 20 * 20 := Nat.mul_le_mul (by omega) (by omega)
      obtain ⟨t, ht⟩ : ∃ t, t = (na + 1) * (nb + 1) := ⟨_, rfl⟩
      rw [← ht] at hmul hlt ⊢
      clear ht
      go_wp2_with fail
      go_ret
      exact ⟨rfl, Hu.out.trans HU.out (by simp)⟩
end Go.Proofs.Ytcdladnbcamgjaa.CuM
