/- The walk of the statement WeightLive: once all have come, and all references are dropped, everything is free. -/
import Derived.Test.YtmdhhembkmkfdaaWv
namespace Go.Proofs.Ytmdhhembkmkfdaa.Wt
open Go Go.RowKit Go.Proofs.Ytmdhhembkmkfdaa.K Go.Proofs.Ytmdhhembkmkfdaa.M Go.Proofs.Ytmdhhembkmkfdaa.O

set_option maxHeartbeats 4000000 in
set_option maxRecDepth 100000 in
theorem come_all {w : World} {B g c : Nat} {s : Wd} {v1 v2 v3 : Value} {bs : List Nat} (h1 : IsW w B g s v1 v2 v3 bs) (h2 : WI s) (hc : w.heap[c]? = some (.cells #[.pointer (some ⟨g, 0, none⟩)] 59 (0, 0))) :
    Calls Try.prog 54 #[.pointer (some ⟨c, 0, none⟩)] w fun e w' => e = .returned (.bool true) ∧ (∃ s' v1' v3', IsW w' B g s' v1' v2 v3' bs ∧ WI s' ∧ s'.things.length = s.things.length ∧ s'.way = [] ∧ ((∀ x ∈ s.way, x.back = true) → s'.has = s.has)) ∧ Old B w w' := by
  have H1 := hid h1
  have H2 := hid h2
  have HC := hid hc
  clear h1 h2 hc
  go_enter Try.func54, Try.ntmps54
  go_wp2_with fail
  go_loopg [2] 61 (fun d u2 wr => ∃ (i : Nat) (s' : Wd) (v1' v3' : Value), u2 = .int .i64 (i : Int) ∧ i ≤ 61 ∧ Hid (i + d = 61) ∧ Hid (IsW wr B g s' v1' v2 v3' bs) ∧ Hid (WI s') ∧ Hid (s'.things.length = s.things.length) ∧ Hid (s'.way.length + i ≤ 60) ∧ Hid ((∀ x ∈ s.way, x.back = true) → (∀ x ∈ s'.way, x.back = true) ∧ s'.has = s.has) ∧ Hid (Old B w wr))
  case atStart => exact ⟨0, s, v1, v3, rfl, by omega, hid (by omega), H1, H2, hid rfl, hid (by have := H2.out.short; omega), hid (fun h => ⟨h, rfl⟩), hid (Old.refl _ _)⟩
  case round =>
    obtain ⟨i, s', v1', v3', rfl, hi, Hd, I1, I2, I3, I4, I5, Ho⟩ := hrel
    by_cases hi61 : i < 61
    · have hi' : (i : Int) < 61 := by omega
      have bc := Ho.out.var HC.out
      have cc : wr.cell? ⟨c, 0, none⟩ = some (.pointer (some ⟨g, 0, none⟩)) := (blk_cell bc 0).trans rfl
      have BC := hid bc
      clear bc
      go_wp2_with fail
      refine (under_any I1.out I2.out.short).mono ?_
      rintro e w3 ⟨v', rfl, ho, hu⟩
      obtain ⟨a, k, rfl, h3, h4, -⟩ := own_view ho
      have J1 := hid (I1.out.upd hu)
      have Jo := hid (Ho.out.trans (Old.nil hu))
      have cc2 : w3.cell? ⟨c, 0, none⟩ = some (.pointer (some ⟨g, 0, none⟩)) := (blk_cell (hu.blk BC.out (by simp)) 0).trans rfl
      obtain ⟨p, hp⟩ : ∃ p, p = s'.way.length := ⟨_, rfl⟩
      rw [← hp] at h3 ⊢
      have HP := hid hp
      clear ho hu hp cc
      by_cases hp0 : p = 0
      · subst hp0
        go_wp2_with fail
        go_ret
        have hw : s'.way = [] := List.eq_nil_of_length_eq_zero HP.out.symm
        exact ⟨rfl, ⟨s', v1', v3', J1.out, I2.out, I3.out, hw, fun h => (I5.out h).2⟩, Jo.out⟩
      · have hp0' : ((p : Int) == 0) = false := by rw [beq_eq_false_iff_ne]; omega
        have hlt : 0 < s'.way.length := by have := HP.out; omega
        have HLT := hid hlt
        clear hlt hp0
        go_wp2_with fail
        refine (come_yes J1.out I2.out HLT.out).mono ?_
        rintro e w4 ⟨rfl, ⟨t', u1, u3, k1, k2, k3, k4, k5⟩, ho⟩
        have K1 := hid k1
        have K2 := hid k2
        have K3 := hid (k3.trans I3.out)
        have K4 : Hid (t'.way.length + (i + 1) ≤ 60) := hid (by have := I4.out; have := HLT.out; rw [k4, List.length_eraseIdx, if_pos HLT.out]; omega)
        have K5 : Hid ((∀ x ∈ s.way, x.back = true) → (∀ x ∈ t'.way, x.back = true) ∧ t'.has = s.has) := hid (fun h => by
          obtain ⟨a1, a2⟩ := I5.out h
          refine ⟨fun x hx => a1 x (by rw [k4] at hx; exact mem_erase hx), ?_⟩
          rw [k5 (a1 _ (by rw [List.getD_eq_getElem?_getD, List.getElem?_eq_getElem HLT.out]; exact List.getElem_mem _)), a2])
        have Ko := hid (Jo.out.trans ho)
        clear k1 k2 k3 k4 k5 ho
        go_wp2_with fail
        go_roundg (61 - (i + 1))
        case measure => have := Hd.out; omega
        case rel => exact ⟨i + 1, t', u1, u3, by go_num, by omega, hid (by omega), K1, K2, K3, K4, K5, Ko⟩
    · exact absurd I4.out (by omega)

set_option maxHeartbeats 4000000 in
set_option maxRecDepth 100000 in
theorem live_walk (a : Option Addr) (len cap : Nat) (xs : List Int) (w : World) (hx : IntRow w a xs) (hl : xs.length = len) (hlc : len ≤ cap) (hc : cap ≤ 9223372036854775807) :
    Calls Try.prog 14 #[.slice a len cap] w fun e w' => e = .returned (.bool true) ∧ Upd [] w w' := by
  have HX := hid hx
  have HL := hid hl
  clear hx hl
  go_enter Try.func14, Try.ntmps14
  go_wp2_with fail
  refine (begun_any w).mono ?_
  rintro e w1 ⟨rfl, hu⟩
  have HU := hid hu
  clear hu
  go_wp2_with fail
  refine (weights_any a len cap xs w1 (HX.out.upd HU.out) HL.out hlc hc).mono ?_
  rintro e w2 ⟨g, v2, bs, m, rfl, hm, hp, hu⟩
  obtain ⟨s, v1, v3, h1, h2, h3⟩ := hp
  have HU2 := hid ((HU.out.trans hu (fun t ht => by cases ht)).alloc (.cells #[.pointer (some ⟨g, 0, none⟩)] 59))
  have hB : w.heap.size ≤ w1.heap.size := HU.out.size
  have ua : Upd [] w2 (w2.alloc (.cells #[.pointer (some ⟨g, 0, none⟩)] 59)) := (Upd.refl _ _).alloc _
  have H1 := hid (h1.upd ua)
  have H2 := hid h2
  have H3 : Hid (s.things.length = m) := hid h3
  have HC := hid (blk_new w2 (.cells #[.pointer (some ⟨g, 0, none⟩)] 59))
  clear hu h1 h2 h3 ua
  go_wp2_with fail
  refine (come_all H1.out H2.out HC.out).mono ?_
  rintro e w3 ⟨rfl, ⟨s1, x1, x3, k1, k2, k3, k4, -⟩, ho⟩
  have K1 := hid k1
  have K2 := hid k2
  have K3 : Hid (s1.things.length = m) := hid (k3.trans H3.out)
  have K4 := hid k4
  have KC := hid (ho.var HC.out)
  have KU := hid (ho.after HU2.out hB)
  obtain ⟨c, hc2⟩ : ∃ c, c = w2.heap.size := ⟨_, rfl⟩
  have HCC := hid hc2
  clear k1 k2 k3 k4 ho
  rw [← hc2] at KC ⊢
  clear hc2
  go_wp2_with fail
  go_loopg [27] m (fun d u27 wr => ∃ (t : Nat) (s' : Wd) (v1' v3' : Value), u27 = .int .i64 (t : Int) ∧ t ≤ m ∧ Hid (t + d = m) ∧ Hid (IsW wr w1.heap.size g s' v1' v2 v3' bs) ∧ Hid (WI s') ∧ Hid (s'.things.length = m) ∧ Hid (s'.way = []) ∧ Hid (wr.heap[c]? = some (.cells #[.pointer (some ⟨g, 0, none⟩)] 59 (0, 0))) ∧ Hid (Upd [] w wr))
  case atStart => exact ⟨0, s1, x1, x3, rfl, by omega, hid (by omega), K1, K2, K3, K4, KC, KU⟩
  case round =>
    obtain ⟨t, s', v1', v3', rfl, ht, Hd, I1, I2, I3, I4, IC, IU⟩ := hrel
    by_cases htm : t < m
    · go_wp2_with fail
      go_loopg [30] 3 (fun d u30 wr => ∃ (n : Nat) (s' : Wd) (v1' v3' : Value), u30 = .int .i64 (n : Int) ∧ n ≤ 3 ∧ Hid (n + d = 3) ∧ Hid (IsW wr w1.heap.size g s' v1' v2 v3' bs) ∧ Hid (WI s') ∧ Hid (s'.things.length = m) ∧ Hid (s'.way = []) ∧ Hid (wr.heap[c]? = some (.cells #[.pointer (some ⟨g, 0, none⟩)] 59 (0, 0))) ∧ Hid (∀ k, k < n → s'.has k t = 0) ∧ Hid (Upd [] w wr))
      case atStart => exact ⟨0, s', v1', v3', rfl, by omega, hid (by omega), I1, I2, I3, I4, IC, hid (fun k hk => by omega), IU⟩
      case round =>
        obtain ⟨n, s', v1', v3', rfl, hn, Hd2, I1, I2, I3, I4, IC, IZ, IU⟩ := hrel
        by_cases hn3 : n < 3
        · have hn' : (n : Int) < 3 := by omega
          have cc : wr.cell? ⟨c, 0, none⟩ = some (.pointer (some ⟨g, 0, none⟩)) := (blk_cell IC.out 0).trans rfl
          by_cases hk : chk s' n t = 0
          · have HK := hid hk
            have HW60 : Hid (s'.way.length < 60) := hid (by rw [I4.out]; decide)
            clear hk
            go_wp2_with fail
            refine (drop_yes I1.out n t HK.out HW60.out).mono ?_
            rintro e w4 ⟨rfl, ⟨y3, k1⟩, ho⟩
            have K1 := hid k1
            have K2 := hid (I2.out.dropped HK.out HW60.out)
            have KC := hid (ho.var IC.out)
            have KU := hid (ho.after IU.out hB)
            clear k1 ho cc
            go_wp2_with fail
            refine (come_all K1.out K2.out KC.out).mono ?_
            rintro e w5 ⟨rfl, ⟨s2, z1, z3, k1, k2, k3, k4, k5⟩, ho⟩
            have L1 := hid k1
            have L2 := hid k2
            have L3 : Hid (s2.things.length = m) := hid (k3.trans I3.out)
            have L4 := hid k4
            have LC := hid (ho.var KC.out)
            have LU := hid (ho.after KU.out hB)
            have LZ : Hid (∀ k, k < n + 1 → s2.has k t = 0) := hid (fun k hk => by
              have e := k5 (fun x hx => by
                have hx2 : x ∈ s'.way ++ [_] := hx
                rw [I4.out] at hx2
                obtain rfl : x = _ := by simpa using hx2
                rfl)
              rw [e]
              show (if k = n then at1 (s'.has n) t 0 else s'.has k) t = 0
              by_cases q : k = n
              · rw [if_pos q]; simp [at1]
              · rw [if_neg q]; exact IZ.out k (by omega))
            clear k1 k2 k3 k4 k5 ho
            go_wp2_with fail
            go_roundg (3 - (n + 1))
            case measure => have := Hd2.out; omega
            case rel => exact ⟨n + 1, s2, z1, z3, by go_num, by omega, hid (by omega), L1, L2, L3, L4, LC, LZ, LU⟩
          · have h4 : chk s' n t = 4 ∧ s'.has n t = 0 := by
              unfold chk at hk ⊢
              rw [if_pos (show n < s'.nodes ∧ t < s'.things.length from ⟨by rw [I2.out.nodes]; exact hn3, by rw [I3.out]; exact htm⟩)] at hk ⊢
              by_cases z : s'.has n t = 0
              · rw [if_pos z]; exact ⟨rfl, z⟩
              · rw [if_neg z] at hk; exact absurd rfl hk
            have dn := drop_no I1.out n t I2.out.short (fun q => hk q.1)
            have H4 := hid h4
            have HK := hid hk
            have DN := hid dn
            clear h4 hk dn
            go_wp2_with fail
            refine DN.out.mono ?_
            rintro e w4 ⟨⟨x, rfl, hx⟩, rfl⟩
            obtain rfl : x = 4 := (hx HK.out).trans H4.out.1
            clear hx cc
            go_wp2_with fail
            refine (come_all I1.out I2.out IC.out).mono ?_
            rintro e w5 ⟨rfl, ⟨s2, z1, z3, k1, k2, k3, k4, k5⟩, ho⟩
            have L1 := hid k1
            have L2 := hid k2
            have L3 : Hid (s2.things.length = m) := hid (k3.trans I3.out)
            have L4 := hid k4
            have LC := hid (ho.var IC.out)
            have LU := hid (ho.after IU.out hB)
            have LZ : Hid (∀ k, k < n + 1 → s2.has k t = 0) := hid (fun k hk => by
              have e := k5 (fun x hx => by rw [I4.out] at hx; cases hx)
              rw [e]
              by_cases q : k = n
              · subst q; exact H4.out.2
              · exact IZ.out k (by omega))
            clear k1 k2 k3 k4 k5 ho
            go_wp2_with fail
            go_roundg (3 - (n + 1))
            case measure => have := Hd2.out; omega
            case rel => exact ⟨n + 1, s2, z1, z3, by go_num, by omega, hid (by omega), L1, L2, L3, L4, LC, LZ, LU⟩
        · obtain rfl : n = 3 := by omega
          have cc : wr.cell? ⟨c, 0, none⟩ = some (.pointer (some ⟨g, 0, none⟩)) := (blk_cell IC.out 0).trans rfl
          have hts : t < s'.things.length := by rw [I3.out]; exact htm
          have fr := freed_any I1.out t hts
          have ho0 : (s'.things.getD t noThing).out = 0 := by
            rw [I2.out.sum t hts, I4.out, IZ.out 0 (by omega), IZ.out 1 (by omega), IZ.out 2 (by omega)]
            rfl
          rw [I2.out.fr t hts, ho0] at fr
          have FR := hid fr
          clear fr ho0 hts
          go_wp2_with fail
          refine FR.out.mono ?_
          rintro e w4 ⟨rfl, rfl⟩
          go_wp2_with fail
          go_roundg (m - (t + 1))
          case measure => have := Hd.out; omega
          case rel => exact ⟨t + 1, s', v1', v3', by go_num, by omega, hid (by omega), I1, I2, I3, I4, IC, IU⟩
    · obtain rfl : t = m := by omega
      go_wp2_with fail
      go_ret
      exact ⟨rfl, IU.out⟩
end Go.Proofs.Ytmdhhembkmkfdaa.Wt
