/- The walk of the statement ClockExact. -/
import Derived.Test.YtcdladnbcamgjaaCkOrd
namespace Go.Proofs.Ytcdladnbcamgjaa.CkEx
open Go Go.RowKit Go.Proofs.Ytcdladnbcamgjaa.K Go.Proofs.Ytcdladnbcamgjaa.M Go.Proofs.Ytcdladnbcamgjaa.Ev Go.Proofs.Ytcdladnbcamgjaa.Ck Go.Proofs.Ytcdladnbcamgjaa.O Go.Proofs.Ytcdladnbcamgjaa.R Go.Proofs.Ytcdladnbcamgjaa.CL Go.Proofs.Ytcdladnbcamgjaa.CW Go.Proofs.Ytcdladnbcamgjaa.Th Go.Proofs.Ytcdladnbcamgjaa.Ah Go.Proofs.Ytcdladnbcamgjaa.Hi Go.Proofs.Ytcdladnbcamgjaa.CkOrd

theorem reach_inv {l : List Ev} {i y : Nat} (h : Th.Reach l i y) (hne : y ≠ i) : ∃ x, Th.Reach l i x ∧ Step l x y := by
  cases h with
  | refl => exact absurd rfl hne
  | step h s => exact ⟨_, h, s⟩

theorem skip_step {l : List Ev} {i x y : Nat} {g : Nat → Bool} (hs : g y = true ↔ ∃ x', x' < x ∧ Th.Reach l i x' ∧ Step l x' y) (hno : ¬ (Th.Reach l i x ∧ Step l x y)) : g y = true ↔ ∃ x', x' < x + 1 ∧ Th.Reach l i x' ∧ Step l x' y := by
  rw [hs]
  constructor
  · rintro ⟨x', h1, h2⟩; exact ⟨x', by omega, h2⟩
  · rintro ⟨x', h1, h2⟩
    by_cases e : x' = x
    · subst e; exact absurd h2 hno
    · exact ⟨x', by omega, h2⟩
/-- A row of truths. -/
def Come (w : World) (C n : Nat) (f : Nat → Bool) : Prop := ∃ cs : Array Value, w.heap[C]? = some (.cells cs 4 (0, 0)) ∧ cs.size = n ∧ ∀ z, z < n → cs[z]? = some (.bool (f z))
theorem Come.cell {w : World} {C n : Nat} {f : Nat → Bool} (h : Come w C n f) {z : Nat} (hz : z < n) : w.cell? ⟨C, z, none⟩ = some (.bool (f z)) := by
  obtain ⟨cs, hb, _, hc⟩ := h; exact (blk_cell hb z).trans (hc z hz)
theorem Come.fro {w : World} {C n : Nat} {f : Nat → Bool} (h : Come w C n f) (z : Nat) : w.frozen? ⟨C, z, none⟩ = false := by
  obtain ⟨cs, hb, _, hc⟩ := h; exact blk_frozen hb z
theorem Come.set {w : World} {C n : Nat} {f : Nat → Bool} (h : Come w C n f) (y : Nat) : Come (w.setCell ⟨C, y, none⟩ (.bool true)) C n (fun z => if z = y then true else f z) := by
  obtain ⟨cs, hb, hs, hc⟩ := h
  refine ⟨_, blk_set hb y _, by simpa using hs, fun z hz => ?_⟩
  by_cases e : z = y
  · subst e; rw [Array.getElem?_setIfInBounds_self_of_lt (by omega)]; simp
  · rw [Array.getElem?_setIfInBounds_ne (Ne.symm e), hc z hz]; simp [e]
theorem info4 : (Try.prog.info? 4).map (fun i => (i.zero, i.size, i.bytes)) = some (some (.bool false), 1, 1) := by kernel_rfl

set_option maxHeartbeats 8000000 in
set_option maxRecDepth 100000 in
theorem exact_walk (a : Option Addr) (len cap : Nat) (xs : List Int) (i0 k0 : Int) (w : World) (hx : IntRow w a xs) (hl : xs.length = len) (hlc : len ≤ cap) (hc : cap ≤ 9223372036854775807) :
    Calls Try.prog 4 #[.slice a len cap, .int .i64 i0, .int .i64 k0] w fun e w' => e = .returned (.bool true) ∧ Upd [] w w' := by
  obtain ⟨i4, h4, hz0, hz1, hz2⟩ := info_parts info4
  have hmk : ∀ (n : Nat), n ≤ 60 → ∀ w, (Instr.makeSlice 33 (.int .i64 (n : Int)) (.int .i64 (n : Int))).run Try.prog w = .ok (.slice (some ⟨w.heap.size, 0, none⟩) n n) (w.alloc (.cells (List.replicate n (.bool false)).toArray 4)) := fun n hn w => by
    have := run_make (P := Try.prog) w 33 4 i4 _ Try.underlying33 h4 hz0 .i64 .i64 (n : Int) (n : Int) (by omega) (by omega) (by rw [hz2]; omega) (by omega)
    rw [this, Int.toNat_natCast, hz1, Nat.mul_one]
    have e : madeCells (Value.bool false).cells n = (List.replicate n (Value.bool false)).toArray := by
      apply Array.ext'
      rw [show (Value.bool false).cells = #[.bool false] from rfl, toList_madeCells_one]
    rw [e]
  have HMK := hid hmk
  have HX := hid hx
  have HL := hid hl
  clear hx hl h4 hz0 hz1 hz2 hmk
  go_enter Try.func4, Try.ntmps4
  go_wp2_with fail
  refine (begun_any _).mono ?_
  rintro e w1 ⟨rfl, hu⟩
  have HU1 := hid hu
  clear hu
  go_wp2_with fail
  refine (hist_short a len cap xs _ (HX.out.upd HU1.out) HL.out hlc hc).mono ?_
  rintro e w2 ⟨l, b, c, rfl, HE, hlc2, hc2, HV, hn, hu⟩
  have HU2 := hid (HU1.out.trans hu (by simp))
  clear hu HX HL hlc hc HU1
  obtain ⟨n, hnl⟩ : ∃ n, n = l.length := ⟨_, rfl⟩
  rw [← hnl] at hlc2 hn ⊢
  have HN := hid hnl
  clear hnl
  by_cases hn0 : n = 0
  · subst hn0
    go_wp2_with fail
    go_ret
    exact ⟨rfl, HU2.out⟩
  · go_wp2_with fail
    refine (rest_some _ _ _ (by omega) (by omega)).mono ?_
    rintro e w' ⟨i, hi, -, rfl, rfl⟩
    go_wp2_with fail
    refine (rest_some _ _ _ (by omega) (by omega)).mono ?_
    rintro e w' ⟨k, hk, -, rfl, rfl⟩
    have hi' := hid (show i < l.length by rw [← HN.out]; omega)
    have hk' := hid (show k < l.length by rw [← HN.out]; omega)
    have A : Calls Try.prog 22 #[.slice b n c, .int .i64 (i : Int), .int .i64 (k : Int)] w2 fun e w' => e = .returned (.tuple #[.bool (aheadL l i k), .int .i64 0]) ∧ Upd [] w2 w' := by
      have := ahead_any b c l i k w2 HE.out (by rw [← HN.out]; exact hlc2) hc2 (by rw [← HN.out]; omega) HV.out hi'.out hk'.out
      rw [← HN.out] at this; exact this
    have HA := hid A
    clear A
    go_wp2_with fail
    refine HA.out.mono ?_
    rintro e w3 ⟨rfl, hu3⟩
    have U3 := hid (HU2.out.trans hu3 (by simp))
    have E3 := hid (HE.out.upd hu3)
    clear hu3 HA HU2 HE
    obtain ⟨B, hB⟩ : ∃ B, B = aheadL l i k := ⟨_, rfl⟩
    have HBB := hid hB
    rw [← hB]
    clear hB
    have hmk := HMK.out n hn
    obtain ⟨C, hC⟩ : ∃ C, C = w3.heap.size := ⟨_, rfl⟩
    have HC := hid hC
    have come0 : Come (w3.alloc (.cells (List.replicate n (.bool false)).toArray 4)) C n (fun _ => false) := ⟨_, by rw [hC]; exact blk_new w3 _, by simp, fun z hz => by simp [hz]⟩
    have q0 := come0.cell (z := i) (by omega)
    have q0f := come0.fro i
    have C0 := hid come0
    have CW := hid (show w.heap.size ≤ C by rw [hC]; exact U3.out.size)
    clear come0
    have hil : (i : Int) < (n : Int) := hi
    rw [hC] at q0 q0f
    have q0r : (Array.replicate n (Value.bool false))[i]? = some (Value.bool false) := by rw [Array.getElem?_replicate, if_pos (by omega)]
    go_wp2_with fail
    rw [← hC]
    clear hmk q0 q0f q0r hC
    have C1 : Hid (Come (w3.alloc (.cells ((Array.replicate n (Value.bool false)).setIfInBounds i (Value.bool true)) 4)) C n (fun z => if z = i then true else false)) := by
      refine ⟨_, by rw [HC.out]; exact blk_new w3 _, by simp, fun z hz => ?_⟩
      by_cases e : z = i
      · subst e; rw [Array.getElem?_setIfInBounds_self_of_lt (by simp; omega)]; simp
      · rw [Array.getElem?_setIfInBounds_ne (Ne.symm e)]; simp [hz, e]
    have U4 : Hid (Upd [] w3 (w3.alloc (.cells ((Array.replicate n (Value.bool false)).setIfInBounds i (Value.bool true)) 4))) := (Upd.refl [] w3).alloc _
    clear C0
    obtain ⟨g0, rfl, -⟩ := E3.out 0 (by rw [← HN.out]; omega)
    go_loopg [11] (n - (i + 1)) (fun d v11 wr => ∃ (y : Nat) (f : Nat → Bool), v11 = .int .i64 (y : Int) ∧ i < y ∧ y ≤ n ∧ Hid (y + d = n) ∧ Hid (Come wr C n f) ∧ Hid (∀ z, z < y → (f z = true ↔ Th.Reach l i z)) ∧ Hid (∀ z, y ≤ z → f z = false) ∧ Hid (Upd [] w3 wr))
    case atStart =>
      refine ⟨i + 1, _, by go_num, by omega, by omega, ?_, C1.out, hid (fun z hz => ?_), hid (fun z hz => ?_), U4.out⟩
      · show _ = _; omega
      · by_cases e : z = i
        · subst e; simp; exact .refl
        · simp only [e, if_false]
          exact ⟨fun h => by simp at h, fun h => by have := h.le; omega⟩
      · have e : ¬ z = i := by omega
        simp [e]
    case round =>
      clear C1 U4
      obtain ⟨y, f, rfl, hiy, hyn, Hy, Hc, Hf, Hg, Hu⟩ := hrel
      by_cases hy : y < n
      · go_wp2_with fail
        go_loopg [12] (y - i) (fun d v12 wr => ∃ (x : Nat) (g : Nat → Bool), v12 = .int .i64 (x : Int) ∧ i ≤ x ∧ x ≤ y ∧ Hid (x + d = y) ∧ Hid (Come wr C n g) ∧ Hid (∀ z, z < y → (g z = true ↔ Th.Reach l i z)) ∧ Hid (∀ z, y < z → g z = false) ∧ Hid (g y = true ↔ ∃ x', x' < x ∧ Th.Reach l i x' ∧ Step l x' y) ∧ Hid (Upd [] w3 wr))
        case atStart => exact ⟨i, f, rfl, Nat.le_refl _, by omega, by show _ = _; omega, Hc.out, Hf.out, hid (fun z hz => Hg.out z (by omega)), hid ⟨fun h => (by rw [Hg.out y (Nat.le_refl _)] at h; cases h), fun ⟨x', h1, h2, h3⟩ => (by have := h2.le; omega)⟩, Hu.out⟩
        case round =>
          clear Hc Hf Hg Hu
          obtain ⟨x, g, rfl, hix, hxy, Hx, Hc, Hf, Hg, Hs, Hu⟩ := hrel
          by_cases hx : x < y
          · obtain ⟨gx, e1, px, kx, mx⟩ := E3.out.upd Hu.out x (by rw [← HN.out]; omega)
            obtain ⟨gy, e2, py, ky, my⟩ := E3.out.upd Hu.out y (by rw [← HN.out]; omega)
            cases e1
            cases e2
            have qx := Hc.out.cell (z := x) (by omega)
            have qy := Hc.out.cell (z := y) hy
            have qyf := Hc.out.fro y
            have hrx := Hf.out x hx
            have hst : Step l x y ↔ ((l.getD x noEv).place = (l.getD y noEv).place ∨ ((l.getD x noEv).kind = 2 ∧ (l.getD y noEv).kind = 3 ∧ (l.getD x noEv).msg = (l.getD y noEv).msg)) :=
              ⟨fun h => h.2.2, fun h => ⟨hx, by rw [← HN.out]; exact hy, h⟩⟩
            obtain ⟨t, ht⟩ : ∃ t, t = g x := ⟨_, rfl⟩
            obtain ⟨ty, hty⟩ : ∃ ty, ty = g y := ⟨_, rfl⟩
            rw [← ht] at qx hrx
            rw [← hty] at qy
            clear ht hty
            obtain ⟨P, hP⟩ : ∃ P, P = (l.getD x noEv).place := ⟨_, rfl⟩
            obtain ⟨K, hK⟩ : ∃ K, K = (l.getD x noEv).kind := ⟨_, rfl⟩
            obtain ⟨M, hM⟩ : ∃ M, M = (l.getD x noEv).msg := ⟨_, rfl⟩
            obtain ⟨P', hP'⟩ : ∃ P, P = (l.getD y noEv).place := ⟨_, rfl⟩
            obtain ⟨K', hK'⟩ : ∃ K, K = (l.getD y noEv).kind := ⟨_, rfl⟩
            obtain ⟨M', hM'⟩ : ∃ M, M = (l.getD y noEv).msg := ⟨_, rfl⟩
            rw [← hP] at px hst
            rw [← hK] at kx hst
            rw [← hM] at mx hst
            rw [← hP'] at py hst
            rw [← hK'] at ky hst
            rw [← hM'] at my hst
            clear hP hK hM hP' hK' hM'
            have HST := hid hst
            have HRX := hid hrx
            clear hst hrx
            have S1 := hid (Hc.out.set y)
            have W1 := hid (show ∀ (wq : World), wq = wr.setCell ⟨C, y, none⟩ (.bool true) → Upd [] w3 wq from fun wq h => by rw [h]; exact Hu.out.setCell (.inr (by show w3.heap.size ≤ C; rw [HC.out]; exact Nat.le_refl _)) _)
            rcases (show t = false ∨ (t = true ∧ P = P') ∨ (t = true ∧ P ≠ P' ∧ K ≠ 2) ∨ (t = true ∧ P ≠ P' ∧ K = 2 ∧ K' ≠ 3) ∨ (t = true ∧ P ≠ P' ∧ K = 2 ∧ K' = 3 ∧ M ≠ M') ∨ (t = true ∧ P ≠ P' ∧ K = 2 ∧ K' = 3 ∧ M = M') by cases t <;> simp <;> omega) with h | ⟨h, h1⟩ | ⟨h, h1, h2⟩ | ⟨h, h1, h2, h3⟩ | ⟨h, h1, h2, h3, h4⟩ | ⟨h, h1, h2, h3, h4⟩
            · have HNO : Hid (¬ (Th.Reach l i x ∧ Step l x y)) := fun q => by have z := HRX.out.2 q.1; rw [h] at z; cases z
              subst h
              go_wp2_with fail
              go_quiet (fail)
              go_wp2_with fail
              go_roundg (y - (x + 1))
              case measure => have := Hx.out; omega
              case rel => exact ⟨x + 1, g, by go_num, by omega, by omega, by show _ = _; omega, Hc.out, Hf.out, Hg.out, skip_step Hs.out HNO.out, Hu.out.drewN _⟩
            · have HYES : Hid (Th.Reach l i x ∧ Step l x y) := ⟨HRX.out.1 h, HST.out.2 (by omega)⟩
              have b1 : ((P : Int) == (P' : Int)) = true := by rw [beq_iff_eq]; omega
              subst h
              go_wp2_with fail
              go_quiet (fail)
              go_wp2_with fail
              go_roundg (y - (x + 1))
              case measure => have := Hx.out; omega
              case rel => exact ⟨x + 1, _, by go_num, by omega, by omega, by show _ = _; omega, S1.out, hid (fun z hz => by rw [if_neg (by omega)]; exact Hf.out z hz), hid (fun z hz => by rw [if_neg (by omega)]; exact Hg.out z hz), hid ⟨fun _ => ⟨x, by omega, HYES.out⟩, fun _ => by rw [if_pos rfl]⟩, (W1.out _ rfl).drewN _⟩
            · have HNO : Hid (¬ (Th.Reach l i x ∧ Step l x y)) := fun q => by have z := HST.out.1 q.2; omega
              have b1 : ((P : Int) == (P' : Int)) = false := by rw [beq_eq_false_iff_ne]; omega
              have b2 : ((K : Int) == 2) = false := by rw [beq_eq_false_iff_ne]; omega
              subst h
              go_wp2_with fail
              go_quiet (fail)
              go_wp2_with fail
              go_roundg (y - (x + 1))
              case measure => have := Hx.out; omega
              case rel => exact ⟨x + 1, g, by go_num, by omega, by omega, by show _ = _; omega, Hc.out, Hf.out, Hg.out, skip_step Hs.out HNO.out, Hu.out.drewN _⟩
            · have HNO : Hid (¬ (Th.Reach l i x ∧ Step l x y)) := fun q => by have z := HST.out.1 q.2; omega
              have b1 : ((P : Int) == (P' : Int)) = false := by rw [beq_eq_false_iff_ne]; omega
              have b2 : ((K : Int) == 2) = true := by rw [beq_iff_eq]; omega
              have b3 : ((K' : Int) == 3) = false := by rw [beq_eq_false_iff_ne]; omega
              subst h
              go_wp2_with fail
              go_quiet (fail)
              go_wp2_with fail
              go_roundg (y - (x + 1))
              case measure => have := Hx.out; omega
              case rel => exact ⟨x + 1, g, by go_num, by omega, by omega, by show _ = _; omega, Hc.out, Hf.out, Hg.out, skip_step Hs.out HNO.out, Hu.out.drewN _⟩
            · have HNO : Hid (¬ (Th.Reach l i x ∧ Step l x y)) := fun q => by have z := HST.out.1 q.2; omega
              have b1 : ((P : Int) == (P' : Int)) = false := by rw [beq_eq_false_iff_ne]; omega
              have b2 : ((K : Int) == 2) = true := by rw [beq_iff_eq]; omega
              have b3 : ((K' : Int) == 3) = true := by rw [beq_iff_eq]; omega
              have b4 : ((M : Int) == (M' : Int)) = false := by rw [beq_eq_false_iff_ne]; omega
              subst h
              go_wp2_with fail
              go_quiet (fail)
              go_wp2_with fail
              go_roundg (y - (x + 1))
              case measure => have := Hx.out; omega
              case rel => exact ⟨x + 1, g, by go_num, by omega, by omega, by show _ = _; omega, Hc.out, Hf.out, Hg.out, skip_step Hs.out HNO.out, Hu.out.drewN _⟩
            · have HYES : Hid (Th.Reach l i x ∧ Step l x y) := ⟨HRX.out.1 h, HST.out.2 (by omega)⟩
              have b1 : ((P : Int) == (P' : Int)) = false := by rw [beq_eq_false_iff_ne]; omega
              have b2 : ((K : Int) == 2) = true := by rw [beq_iff_eq]; omega
              have b3 : ((K' : Int) == 3) = true := by rw [beq_iff_eq]; omega
              have b4 : ((M : Int) == (M' : Int)) = true := by rw [beq_iff_eq]; omega
              subst h
              go_wp2_with fail
              go_quiet (fail)
              go_wp2_with fail
              go_roundg (y - (x + 1))
              case measure => have := Hx.out; omega
              case rel => exact ⟨x + 1, _, by go_num, by omega, by omega, by show _ = _; omega, S1.out, hid (fun z hz => by rw [if_neg (by omega)]; exact Hf.out z hz), hid (fun z hz => by rw [if_neg (by omega)]; exact Hg.out z hz), hid ⟨fun _ => ⟨x, by omega, HYES.out⟩, fun _ => by rw [if_pos rfl]⟩, (W1.out _ rfl).drewN _⟩
          · have hxy' : x = y := by omega
            subst hxy'
            go_wp2_with fail
            go_roundg (n - (x + 1))
            case measure => have := Hy.out; omega
            case rel =>
              refine ⟨x + 1, g, by go_num, by omega, by omega, by show _ = _; omega, Hc.out, hid (fun z hz => ?_), hid (fun z hz => Hg.out z (by omega)), Hu.out⟩
              by_cases e : z = x
              · subst e
                rw [Hs.out]
                constructor
                · rintro ⟨x', _, h2, h3⟩; exact h2.step h3
                · intro h
                  obtain ⟨x', h2, h3⟩ := reach_inv h (by omega)
                  exact ⟨x', h3.1, h2, h3⟩
              · exact Hf.out z (by omega)
      · have hyn' : y = n := by omega
        subst hyn'
        have qk := Hc.out.cell (z := k) (by omega)
        have hfin : B = (decide (i ≠ k) && f k) := by
          rw [HBB.out]
          rw [Bool.eq_iff_iff, ahead_iff HV.out hi'.out hk'.out, Bool.and_eq_true, decide_eq_true_eq, Hf.out k (by omega)]
        obtain ⟨t, ht⟩ : ∃ t, t = f k := ⟨_, rfl⟩
        rw [← ht] at qk hfin
        clear ht
        by_cases hik : i = k
        · subst hik
          have hb : B = false := by rw [hfin]; simp
          subst hb
          clear hfin
          go_wp2_with fail
          go_ret
          exact ⟨rfl, U3.out.trans Hu.out (by simp)⟩
        · have hne : ((i : Int) != (k : Int)) = true := by rw [bne_iff_ne]; omega
          have hb : B = t := by rw [hfin]; simp [hik]
          subst hb
          clear hfin
          go_wp2_with fail
          go_ret
          exact ⟨ret_bool (by simp), U3.out.trans Hu.out (by simp)⟩
end Go.Proofs.Ytcdladnbcamgjaa.CkEx
