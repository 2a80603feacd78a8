/- The walk of the statement TraceCut. -/
import Derived.Test.YtcdladnbcamgjaaTBk
import Derived.Test.YtcdladnbcamgjaaCc
namespace Go.Proofs.Ytcdladnbcamgjaa.TCt
open Go Go.RowKit Go.Proofs.Ytcdladnbcamgjaa.K Go.Proofs.Ytcdladnbcamgjaa.M Go.Proofs.Ytcdladnbcamgjaa.Ev Go.Proofs.Ytcdladnbcamgjaa.Ck Go.Proofs.Ytcdladnbcamgjaa.O Go.Proofs.Ytcdladnbcamgjaa.R Go.Proofs.Ytcdladnbcamgjaa.Hi Go.Proofs.Ytcdladnbcamgjaa.Th Go.Proofs.Ytcdladnbcamgjaa.By Go.Proofs.Ytcdladnbcamgjaa.Pk Go.Proofs.Ytcdladnbcamgjaa.Tk Go.Proofs.Ytcdladnbcamgjaa.Ta Go.Proofs.Ytcdladnbcamgjaa.Up Go.Proofs.Ytcdladnbcamgjaa.TBk Go.Proofs.Ytcdladnbcamgjaa

theorem Unp.cut {l l' : List Ev} {c : Int} {k : Nat} (hk : k < (packL l).length) (h : Unp ((packL l).take k) c l') (ho : ∀ e ∈ l, okE e) (hl : l.length ≤ 60) : c = 3 := by
  have hlen : ((packL l).take k).length ≤ 363 := by rw [List.length_take]; have := (packL_len hl).2; omega
  by_cases h1 : k < (putL l.length).length
  · have ht : tk ((packL l).take k) = none := by
      unfold packL
      rw [List.take_append_of_le_length (by omega)]
      exact tk_cut _ (by omega) k h1
    rcases h with ⟨_, _, h⟩ | ⟨_, _, _, n, r, h2, _⟩
    · rcases h with h | ⟨_, h⟩ | ⟨n, r, h2, _⟩
      · omega
      · exact h
      · rw [ht] at h2; cases h2
    · rw [ht] at h2; cases h2
  · have ht : tk ((packL l).take k) = some (l.length, (l.flatMap packE).take (k - (putL l.length).length)) := by
      unfold packL
      rw [List.take_append, List.take_of_length_le (by omega), tk_put _ _ (by omega)]
    have hu := unp_cut l ho [] (k - (putL l.length).length) (by unfold packL at hk; rw [List.length_append] at hk; omega)
    rcases h with ⟨_, _, h⟩ | ⟨_, _, _, n, r, h2, h3⟩
    · rcases h with h | ⟨h, _⟩ | ⟨n, r, h2, h3⟩
      · omega
      · rw [ht] at h; cases h
      · rw [ht] at h2
        obtain ⟨rfl, rfl⟩ : l.length = n ∧ _ = r := by simpa using h2
        rcases h3 with h3 | ⟨_, h3⟩ | ⟨l2, s, h3, _⟩
        · omega
        · exact h3
        · rw [hu] at h3; cases h3
    · rw [ht] at h2
      obtain ⟨rfl, rfl⟩ : l.length = n ∧ _ = r := by simpa using h2
      rw [hu] at h3; cases h3
theorem Unp.more {l l' : List Ev} {c : Int} {m : List Nat} (h : Unp (packL l ++ m) c l') (hm : m ≠ []) (ho : ∀ e ∈ l, okE e) (hl : l.length ≤ 60) : c ≠ 0 := by
  rcases h with ⟨_, h, _⟩ | ⟨_, _, _, n, r, h1, h2⟩
  · exact h
  · rw [tk_packL (by omega)] at h1
    obtain ⟨rfl, rfl⟩ : l.length = n ∧ l.flatMap packE ++ m = r := by simpa using h1
    rw [unp_all l ho] at h2
    have : m = [] := by
      have := Option.some.inj h2
      exact (Prod.mk.inj this).2
    exact absurd this hm
theorem row_take {w : World} {a : Option Addr} {xs : List Nat} (h : ByRow w a xs) (m : Nat) : ByRow w a (xs.take m) := fun i hi => by
  have hi' : i < m ∧ i < xs.length := by simp at hi; omega
  obtain ⟨x, e, hc⟩ := h i hi'.2
  refine ⟨x, e, ?_⟩
  rw [hc]; simp [List.getD_eq_getElem?_getD, hi'.1]

set_option maxHeartbeats 8000000 in
set_option maxRecDepth 100000 in
theorem the_walk (a0 : Option Addr) (len0 cap0 : Nat) (z0 : List Int) (q : Int) (a1 : Option Addr) (len1 cap1 : Nat) (xs : List Nat) (w : World) (hc0 : len0 ≤ cap0) (hm0 : cap0 ≤ 9223372036854775807) (r0 : IntRow w a0 z0) (e0 : z0.length = len0) (r1 : ByRow w a1 xs) (e1 : xs.length = len1) (hm1 : len1 ≤ 140737488351232) (hn1 : a1 = none → cap1 = 0) (h1 : ∀ x ∈ xs, x < 256) :
    Calls Try.prog 16 #[.slice a0 len0 cap0, .int .i64 q, .slice a1 len1 cap1] w fun e w' => e = .returned (.bool true) ∧ Upd [] w w' := by
  have R0 := hid r0
  have E0 := hid e0
  have R1 := hid r1
  have E1 := hid e1
  have X1 := hid h1
  have N1 := hid hn1
  clear r0 e0 r1 e1 h1 hn1
  have U := hid (Upd.refl [] w)
  go_enter Try.func16, Try.ntmps16
  go_wp2_with fail
  refine (Be.traceBegun_any _).mono ?_
  rintro e w1 ⟨rfl, hu⟩
  replace U := hid (U.out.trans hu (by simp)); replace R0 := hid (R0.out.upd hu); replace R1 := hid (R1.out.upd hu)
  clear hu
  go_wp2_with fail
  refine (hist_any a0 len0 cap0 z0 _ R0.out E0.out hc0 hm0).mono ?_
  rintro e w2 ⟨l, b, c, rfl, hr, hlc2, hc2, hv, hsm, hlen, hu⟩
  replace U := hid (U.out.trans hu (by simp)); replace R1 := hid (R1.out.upd hu)
  have HR := hid hr
  have HV := hid hv
  have OK := hid (okE_of hv hsm)
  have hl60 : l.length ≤ 60 := by omega
  have HL := hid hl60
  obtain ⟨n, hn⟩ : ∃ n, n = l.length := ⟨_, rfl⟩
  have HN := hid hn
  rw [← hn] at hlc2 hl60 ⊢
  clear hu hr hv hsm hlen hn R0 E0 hc0 hm0
  go_wp2_with fail
  refine (pack_any b c l n _ HR.out HN.out hlc2 hc2 (by omega) HV.out).mono ?_
  rintro e w3 ⟨v3, rfl, ho, hu⟩
  replace U := hid (U.out.trans hu (by simp)); replace R1 := hid (R1.out.upd hu)
  obtain ⟨a3, c3, rfl, -, h31, h32, r3⟩ := byRow_of ho
  have R3 := hid r3
  have PL := hid (packL_len HL.out)
  obtain ⟨m, hm⟩ : ∃ m, m = (packL l).length := ⟨_, rfl⟩
  have HM := hid hm
  have PLT := hid (packL_lt OK.out (by have := HL.out; omega))
  have pl1 : 1 ≤ m := by have := PL.out; omega
  have pl2 : m ≤ 363 := by have := PL.out; omega
  rw [← hm] at h31 ⊢
  clear hu ho r3 hm PL
  go_wp2_with fail
  refine (rest_some _ _ _ (by omega) (by omega)).mono ?_
  rintro e w' ⟨r, hr, -, rfl, rfl⟩
  have hrm : r < m := by omega
  have rc : (r : Int) ≤ (c3 : Int) := by omega
  go_wp2_with fail
  refine (unpack_any a3 r c3 ((packL l).take r) _ (row_take R3.out r) (by rw [List.length_take]; have := HM.out; omega) (by omega) h32 (fun x hx => PLT.out x (List.mem_of_mem_take hx))).mono ?_
  rintro e w4 ⟨l4, b4, c4, er, rfl, -, -, -, hu, HU4⟩
  have her := Unp.cut (by have := HM.out; omega) HU4.out OK.out HL.out
  subst her
  replace U := hid (U.out.trans hu (by simp)); replace R1 := hid (R1.out.upd hu); replace R3 := hid (R3.out.upd hu)
  clear hu HU4
  go_wp2_with fail
  refine (Cc.concat_two a3 a1 m c3 len1 cap1 (packL l) xs w4 R3.out HM.out.symm R1.out E1.out (by omega) (by omega) (fun _ h => N1.out h)).mono ?_
  rintro e w5 ⟨v5, rfl, ho, hu⟩
  replace U := hid (U.out.trans hu (by simp))
  obtain ⟨a5, c5, rfl, hl5, h51, h52, r5⟩ := byRow_of ho
  have R5 := hid r5
  have L5 := hid hl5
  have PLM : Hid (∀ x ∈ packL l ++ xs, x < 256) := hid (fun x hx => by
    rcases List.mem_append.1 hx with h | h
    · exact PLT.out x h
    · exact X1.out x h)
  clear hu ho r5 hl5
  go_wp2_with fail
  refine (unpack_any a5 (m + len1) c5 (packL l ++ xs) _ R5.out L5.out h51 h52 PLM.out).mono ?_
  rintro e w6 ⟨l6, b6, c6, er, rfl, -, -, -, hu, HU6⟩
  replace U := hid (U.out.trans hu (by simp))
  clear hu
  by_cases hx : xs = []
  · have h0 : len1 = 0 := by rw [← E1.out, hx]; rfl
    have he : er = 0 := by
      have h6 := HU6.out
      rw [hx, List.append_nil] at h6
      exact (Unp.packed h6 HV.out OK.out HL.out).1
    subst he
    subst h0
    clear HU6 hx
    go_wp2_with fail
    go_ret
    exact ⟨rfl, U.out⟩
  · have h0 : 0 < (len1 : Int) := by
      have := List.length_pos_iff.2 hx
      rw [E1.out] at this; omega
    have b : (er != 0) = true := by rw [bne_iff_ne]; exact Unp.more HU6.out hx OK.out HL.out
    clear HU6 hx
    go_wp2_with fail
    go_ret
    exact ⟨ret_bool (decide_eq_true (by omega)), U.out⟩
end Go.Proofs.Ytcdladnbcamgjaa.TCt
