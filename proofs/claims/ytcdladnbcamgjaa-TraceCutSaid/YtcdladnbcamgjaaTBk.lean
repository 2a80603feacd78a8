/- The walk of the statement TraceBack. -/
import Derived.OpenShut
import Derived.Test.YtcdladnbcamgjaaUp
import Derived.Test.YtcdladnbcamgjaaBe
import Derived.Test.YtcdladnbcamgjaaTPl
import Derived.Test.YtcdladnbcamgjaaLd
namespace Go.Proofs.Ytcdladnbcamgjaa.TBk
open Go Go.RowKit Go.Proofs.Ytcdladnbcamgjaa.K Go.Proofs.Ytcdladnbcamgjaa.M Go.Proofs.Ytcdladnbcamgjaa.Ev Go.Proofs.Ytcdladnbcamgjaa.Ck Go.Proofs.Ytcdladnbcamgjaa.O Go.Proofs.Ytcdladnbcamgjaa.Hi Go.Proofs.Ytcdladnbcamgjaa.Th Go.Proofs.Ytcdladnbcamgjaa.By Go.Proofs.Ytcdladnbcamgjaa.Pk Go.Proofs.Ytcdladnbcamgjaa.Tk Go.Proofs.Ytcdladnbcamgjaa.Ta Go.Proofs.Ytcdladnbcamgjaa.Up Go.Proofs.Ytcdladnbcamgjaa

/-- A slice of bytes that came in. -/
theorem bytes_of_row {w : World} {a : Option Addr} {len cap : Nat} {zs : List Int} (h : (a = none ∧ len = 0 ∧ cap = 0 ∧ zs = []) ∨
    ∃ x, a = some x ∧ len ≤ cap ∧ cap ≤ maxLen ∧ zs.length = cap ∧ (∀ i, i < zs.length → w.cell? (x.add i) = some (.int .u8 (zs.getD i 0))) ∧ ∀ n ∈ zs, (Lit.int .u8 n).wf = true) :
    ∃ xs : List Nat, ByRow w a xs ∧ xs.length = len ∧ len ≤ cap ∧ cap ≤ 9223372036854775807 ∧ ∀ x ∈ xs, x < 256 := by
  rcases h with ⟨rfl, rfl, rfl, rfl⟩ | ⟨x, rfl, h1, h2, h3, h4, h5⟩
  · exact ⟨[], fun i hi => by simp at hi, rfl, Nat.le_refl _, by omega, fun n hn => by simp at hn⟩
  · unfold maxLen at h2
    refine ⟨(zs.take len).map Int.toNat, fun i hi => ⟨x, rfl, ?_⟩, by simp; omega, h1, h2, fun n hn => ?_⟩
    · have hi' : i < len ∧ i < zs.length := by simp at hi; omega
      rw [h4 i hi'.2]
      have hb := bounds_u8 (h5 zs[i] (List.getElem_mem hi'.2))
      have e1 : zs.getD i 0 = zs[i] := by simp [List.getD_eq_getElem?_getD, hi'.2]
      have e2 : ((zs.take len).map Int.toNat).getD i 0 = zs[i].toNat := by simp [List.getD_eq_getElem?_getD, hi'.1, hi'.2]
      rw [e1, e2]
      congr 2
      omega
    · obtain ⟨z, hz, rfl⟩ := List.mem_map.1 hn
      have := bounds_u8 (h5 z (List.mem_of_mem_take hz))
      omega

theorem putL_lt (n : Nat) (h : n ≤ 16000) : ∀ x ∈ putL n, x < 256 := fun x hx => by
  unfold putL at hx
  split at hx
  · simp at hx; omega
  · rw [if_pos (by omega)] at hx; simp at hx; omega
theorem okE_of {l : List Ev} (hv : Valid l) (hl : ∀ x ∈ l, x.place < 4 ∧ (x.kind = 1 → x.msg = 0)) : ∀ e ∈ l, okE e := fun e he => by
  obtain ⟨i, hi, rfl⟩ := List.getElem_of_mem he
  have hf := hv i hi
  have e1 : l.getD i noEv = l[i] := by simp [List.getD_eq_getElem?_getD, hi]
  obtain ⟨h1, h2⟩ := hl l[i] (List.getElem_mem hi)
  have k1 := hf.k1
  have k3 := hf.k3
  have m := hf.m
  rw [e1] at k1 k3 m
  refine ⟨by omega, k1, k3, h2, ?_⟩
  by_cases hk : l[i].kind = 1
  · rw [h2 hk]; omega
  · exact m hk
theorem packE_lt {e : Ev} (h : okE e) : ∀ x ∈ packE e, x < 256 := fun x hx => by
  obtain ⟨h1, h2, h3, h4, h5⟩ := h
  unfold packE at hx
  rcases List.mem_append.1 hx with q | q
  · exact putL_lt _ (by omega) x q
  · split at q
    · exact putL_lt _ (by omega) x q
    · simp at q
theorem packL_lt {l : List Ev} (h : ∀ e ∈ l, okE e) (hl : l.length ≤ 200) : ∀ x ∈ packL l, x < 256 := fun x hx => by
  unfold packL at hx
  rcases List.mem_append.1 hx with q | q
  · exact putL_lt _ (by omega) x q
  · obtain ⟨e, he, hm⟩ := List.mem_flatMap.1 q
    exact packE_lt (h e he) x hm
theorem tk_packL {l : List Ev} (hl : l.length ≤ 200) (r : List Nat) : tk (packL l ++ r) = some (l.length, l.flatMap packE ++ r) := by
  unfold packL
  rw [List.append_assoc, tk_put _ _ (by omega)]
theorem packL_len {l : List Ev} (hl : l.length ≤ 60) : 1 ≤ (packL l).length ∧ (packL l).length ≤ 363 := by
  have h := packU_len l l.length (Nat.le_refl _)
  rw [packU_all] at h
  have := (putL_len l.length).1
  unfold packL at h ⊢
  rw [List.length_append] at h ⊢
  omega
/-- Unpacking what was packed. -/
theorem Unp.packed {l l' : List Ev} {c : Int} (h : Unp (packL l) c l') (hv : Valid l) (ho : ∀ e ∈ l, okE e) (hl : l.length ≤ 60) : c = 0 ∧ l' = l := by
  have ht := tk_packL (l := l) (by omega) []
  rw [List.append_nil, List.append_nil] at ht
  have hu := unp_all l ho [] []
  rw [List.nil_append, List.append_nil] at hu
  rcases h with ⟨_, _, h⟩ | ⟨hc, _, _, n, r, h1, h2⟩
  · rcases h with h | ⟨h, _⟩ | ⟨n, r, h1, h⟩
    · have := (packL_len hl).2; omega
    · rw [ht] at h; cases h
    · rw [ht] at h1
      obtain ⟨rfl, rfl⟩ : l.length = n ∧ l.flatMap packE = r := by simpa using h1
      rw [hu] at h
      rcases h with h | ⟨h, _⟩ | ⟨l2, s, h2, h⟩
      · omega
      · cases h
      · obtain ⟨rfl, rfl⟩ : l = l2 ∧ [] = s := by simpa using h2
        rcases h with h | h
        · exact absurd rfl h
        · exact absurd hv h
  · rw [ht] at h1
    obtain ⟨rfl, rfl⟩ : l.length = n ∧ l.flatMap packE = r := by simpa using h1
    rw [hu] at h2
    exact ⟨hc, by simpa using h2.symm⟩

set_option maxHeartbeats 8000000 in
set_option maxRecDepth 100000 in
theorem the_walk (a0 : Option Addr) (len0 cap0 : Nat) (z0 : List Int) (a1 : Option Addr) (len1 cap1 : Nat) (xs : List Nat) (w : World) (hc0 : len0 ≤ cap0) (hm0 : cap0 ≤ 9223372036854775807) (r0 : IntRow w a0 z0) (e0 : z0.length = len0) (r1 : ByRow w a1 xs) (e1 : xs.length = len1) (hc1 : len1 ≤ cap1) (hm1 : cap1 ≤ 9223372036854775807) (h1 : ∀ x ∈ xs, x < 256) :
    Calls Try.prog 14 #[.slice a0 len0 cap0, .slice a1 len1 cap1] w fun e w' => e = .returned (.bool true) ∧ Upd [] w w' := by
  have R0 := hid r0
  have E0 := hid e0
  have R1 := hid r1
  have E1 := hid e1
  have X1 := hid h1
  clear r0 e0 r1 e1 h1
  have U := hid (Upd.refl [] w)
  go_enter Try.func14, Try.ntmps14
  go_wp2_with fail
  refine (Be.traceBegun_any _).mono ?_
  rintro e w1 ⟨rfl, hu⟩
  replace U := hid (U.out.trans hu (by simp)); replace R0 := hid (R0.out.upd hu); replace R1 := hid (R1.out.upd hu)
  clear hu
  go_wp2_with fail
  refine (hist_any a0 len0 cap0 z0 _ R0.out E0.out hc0 hm0).mono ?_
  rintro e w2 ⟨l, b, c, rfl, hr, hlc2, hc2, hv, hsm, hlen, hu⟩
  replace U := hid (U.out.trans hu (by simp)); replace R1 := hid (R1.out.upd hu)
  have HR := hid hr
  have HV := hid hv
  have OK := hid (okE_of hv hsm)
  have hl60 : l.length ≤ 60 := by omega
  obtain ⟨n, hn⟩ : ∃ n, n = l.length := ⟨_, rfl⟩
  have HN := hid hn
  rw [← hn] at hlc2 hl60 ⊢
  clear hu hr hv hsm hlen hn R0 E0 hc0 hm0
  go_wp2_with fail
  refine (pack_any b c l n _ HR.out HN.out hlc2 hc2 (by omega) HV.out).mono ?_
  rintro e w3 ⟨v3, rfl, ho, hu⟩
  replace U := hid (U.out.trans hu (by simp)); replace R1 := hid (R1.out.upd hu); replace HR := hid (HR.out.upd hu)
  obtain ⟨a3, c3, rfl, -, h31, h32, r3⟩ := byRow_of ho
  have R3 := hid r3
  obtain ⟨m, hm⟩ : ∃ m, m = (packL l).length := ⟨_, rfl⟩
  have HM := hid hm
  rw [← hm] at h31 ⊢
  clear hu ho r3 hm
  go_wp2_with fail
  refine (unpack_any a3 m c3 (packL l) _ R3.out HM.out.symm h31 h32 (packL_lt OK.out (by rw [← HN.out]; omega))).mono ?_
  rintro e w4 ⟨l4, b4, c4, er, rfl, R4, h41, h42, hu, HU4⟩
  obtain ⟨he, hl4⟩ := Unp.packed HU4.out HV.out OK.out (by rw [← HN.out]; exact hl60)
  subst he
  subst hl4
  replace U := hid (U.out.trans hu (by simp)); replace R1 := hid (R1.out.upd hu); replace HR := hid (HR.out.upd hu)
  clear hu HU4 R3
  rw [← HN.out]
  have eq := Ld.equal_ev b4 b n c4 c l4 w4 R4.out HR.out HN.out.symm (by omega)
  go_wp2_with fail
  refine eq.mono ?_
  rintro e w5 ⟨rfl, q, rfl⟩
  replace U := hid (U.out.drewN q); replace R1 := hid (R1.out.upd ((Upd.refl [] w4).drewN q))
  clear eq R4 HR
  go_wp2_with fail
  refine (unpack_any a1 len1 cap1 xs _ R1.out E1.out hc1 hm1 X1.out).mono ?_
  rintro e w6 ⟨l6, b6, c6, er, rfl, R6, h61, h62, hu, HU6⟩
  replace U := hid (U.out.trans hu (by simp)); replace R1 := hid (R1.out.upd hu)
  clear hu
  by_cases he : er = 0
  · obtain ⟨hb, hv, hl⟩ := HU6.out.back X1.out he
    subst he
    have HB := hid hb
    have HV6 := hid hv
    obtain ⟨n6, hn6⟩ : ∃ n, n = l6.length := ⟨_, rfl⟩
    have HN6 := hid hn6
    rw [← hn6] at h61 hl ⊢
    clear hn6 HU6 hb hv
    go_wp2_with fail
    refine (pack_any b6 c6 l6 n6 _ R6.out HN6.out h61 h62 hl HV6.out).mono ?_
    rintro e w7 ⟨v7, rfl, ho, hu⟩
    replace U := hid (U.out.trans hu (by simp)); replace R1 := hid (R1.out.upd hu)
    obtain ⟨a7, c7, rfl, -, h71, h72, r7⟩ := byRow_of ho
    rw [HB.out] at r7
    rw [HB.out, E1.out] at h71 ⊢
    have eq := Be.bytesEq a7 a1 len1 c7 cap1 xs w7 r7 R1.out E1.out
    clear hu ho r7
    go_wp2_with fail
    refine eq.mono ?_
    rintro e w8 ⟨rfl, rfl⟩
    go_wp2_with fail
    go_ret
    exact ⟨rfl, U.out⟩
  · have hl0 : l6.length = 0 := by
      rcases HU6.out with ⟨h, _⟩ | ⟨h, _⟩
      · rw [h]; rfl
      · exact absurd h he
    have b : (er != 0) = true := by rw [bne_iff_ne]; exact he
    rw [hl0]
    clear he HU6 hl0
    go_wp2_with fail
    go_ret
    exact ⟨rfl, U.out⟩
end Go.Proofs.Ytcdladnbcamgjaa.TBk
