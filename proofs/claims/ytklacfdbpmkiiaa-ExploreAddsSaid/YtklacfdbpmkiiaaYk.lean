/- Programs that are changed where they lie; the walk of ExploreApart. -/
import Derived.Test.YtklacfdbpmkiiaaYj
namespace Go.Proofs.Ytklacfdbpmkiiaa.Y
open Go Go.RowKit Go.Proofs.Ytklacfdbpmkiiaa Go.Proofs.Ytklacfdbpmkiiaa.K Go.Proofs.Ytklacfdbpmkiiaa.M Go.Proofs.Ytklacfdbpmkiiaa.O Go.Proofs.Ytklacfdbpmkiiaa.R Go.Proofs.Ytklacfdbpmkiiaa.A Go.Proofs.Ytklacfdbpmkiiaa.MS
open Go.Proofs.Ytklacfdbpmkiiaa.X (D St Ps noD act wr dep may newC newH stp)

theorem dcells_set : ∀ (l : List D) (k q x : Nat) (d' : D), k < l.length → q < 3 → dcl d' = (dcl (l.getD k noD)).set q (nv x) → dcells (l.set k d') = (dcells l).set (k * 3 + q) (nv x)
  | [], k, q, x, d', h, _, _ => by simp at h
  | d :: l, 0, q, x, d', _, hq, hd => by
    show dcl d' ++ dcells l = (dcl d ++ dcells l).set (0 * 3 + q) (nv x)
    rw [Nat.zero_mul, Nat.zero_add, List.set_append_left _ _ (by show q < 3; exact hq)]
    rw [hd]; rfl
  | d :: l, k + 1, q, x, d', h, hq, hd => by
    show dcl d ++ dcells (l.set k d') = (dcl d ++ dcells l).set ((k + 1) * 3 + q) (nv x)
    rw [List.set_append_right _ _ (by show 3 ≤ _; omega), show (k + 1) * 3 + q - (dcl d).length = k * 3 + q by show _ - 3 = _; omega]
    rw [dcells_set l k q x d' (by simpa using h) hq (by simpa using hd)]
/-- A number of a step has turned. -/
theorem PB.put {w : World} {B g : Nat} {us : List Value} {P : Ps} (h : PB w B g us P) {i k q x gi n cap : Nat} {d' : D} (hi : i < 3) (hk : k < (P.getD i []).length) (hq : q < 3) (hd : dcl d' = (dcl ((P.getD i []).getD k noD)).set q (nv x)) (hu : us.getD i undef = .slice (some ⟨gi, 0, none⟩) n cap) :
    PB (w.setCell ⟨gi, k * 3 + q, none⟩ (nv x)) B g us (P.set i ((P.getD i []).set k d')) := by
  have ug : Upd [gi] w (w.setCell ⟨gi, k * 3 + q, none⟩ (nv x)) := (Upd.refl _ _).setCell (.inl (by simp)) _
  have hrow := h.own i hi
  have hob : (us.getD i undef).ownBlock = some gi := by rw [hu]; rfl
  have hng : g ≠ gi := fun e => own_cells_ne hrow h.blk (by decide) gi hob e.symm
  have hil : i < P.length := by rw [h.pl]; exact hi
  refine ⟨by rw [List.length_set]; exact h.pl, h.ul, h.gB, ug.blk h.blk (by simpa using hng), fun j hj => ?_, h.apart, fun j hj he => ?_⟩
  · rw [getD_setL P i j _ [] hil]
    by_cases e : i = j
    · subst e
      rw [if_pos rfl, List.length_set, dcells_set _ k q x d' hk hq hd]
      rw [hu] at hrow ⊢
      have hn : n = (P.getD i []).length := by
        obtain ⟨a, c, e, -⟩ := own_view hrow
        cases e; rfl
      subst hn
      exact row_set hrow (by rw [dcells_len]; omega) _
    · rw [if_neg e]
      exact own_upd (h.own j hj) ug (fun b hb hm => by
        have e2 : b = gi := by simpa using hm
        subst e2; exact e (h.apart i j b hi hj hob hb))
  · rw [getD_setL P i j _ [] hil] at he
    by_cases e : i = j
    · rw [if_pos e] at he
      have hz : (P.getD i []).length = 0 := by
        have := congrArg List.length he
        rw [List.length_set] at this; exact this
      omega
    · rw [if_neg e] at he; exact h.nil j hj he
/-- A step's numbers, where they lie. -/
theorem PB.at {w : World} {B g : Nat} {us : List Value} {P : Ps} (h : PB w B g us P) {i k : Nat} (hi : i < 3) (hk : k < (P.getD i []).length) : ∃ gi cap, us.getD i undef = .slice (some ⟨gi, 0, none⟩) (P.getD i []).length cap ∧ B ≤ gi ∧
    w.cell? ⟨gi, k * 3, none⟩ = some (nv ((P.getD i []).getD k noD).kind) ∧ w.cell? ⟨gi, k * 3 + 1, none⟩ = some (nv ((P.getD i []).getD k noD).cell) ∧ w.cell? ⟨gi, k * 3 + 2, none⟩ = some (nv ((P.getD i []).getD k noD).val) ∧ (∀ j, w.frozen? ⟨gi, j, none⟩ = false) := by
  obtain ⟨a, cap, e, -, -, hc⟩ := own_view (h.own i hi)
  obtain ⟨d0, d1, d2⟩ := dcells_get (P.getD i []) k hk
  obtain ⟨gi, rfl, hb, c0, fz⟩ := hc _ _ d0
  obtain ⟨g1, e1, -, c1, -⟩ := hc _ _ d1
  obtain ⟨g2, e2, -, c2, -⟩ := hc _ _ d2
  cases e1; cases e2
  exact ⟨gi, cap, e, hb, c0, c1, c2, fz⟩
/-- P is Q, but for what F makes of each step. -/
structure El (P Q : Ps) (F : Nat → Nat → D → D) : Prop where
  pl : P.length = 3
  len : ∀ q, q < 3 → (P.getD q []).length = (Q.getD q []).length
  at' : ∀ q z, q < 3 → z < (Q.getD q []).length → (P.getD q []).getD z noD = F q z ((Q.getD q []).getD z noD)
theorem El.congr {P Q : Ps} {F G : Nat → Nat → D → D} (h : El P Q F) (hf : ∀ q z d, q < 3 → z < (Q.getD q []).length → F q z d = G q z d) : El P Q G :=
  ⟨h.pl, h.len, fun q z hq hz => by rw [h.at' q z hq hz]; exact hf q z _ hq hz⟩
theorem El.start {Q : Ps} (h : Q.length = 3) : El Q Q (fun _ _ d => d) := ⟨h, fun _ _ => rfl, fun _ _ _ _ => rfl⟩
theorem El.put {P Q : Ps} {F : Nat → Nat → D → D} (h : El P Q F) {i k : Nat} {d' : D} (hi : i < 3) (hk : k < (Q.getD i []).length) : El (P.set i ((P.getD i []).set k d')) Q (fun q z d => if q = i ∧ z = k then d' else F q z d) := by
  have hil : i < P.length := by rw [h.pl]; exact hi
  refine ⟨by rw [List.length_set]; exact h.pl, fun q hq => ?_, fun q z hq hz => ?_⟩
  · rw [getD_setL P i q _ [] hil]
    by_cases e : i = q
    · subst e; rw [if_pos rfl, List.length_set]; exact h.len i hi
    · rw [if_neg e]; exact h.len q hq
  · rw [getD_setL P i q _ [] hil]
    by_cases e : i = q
    · subst e
      rw [if_pos rfl, getD_setL _ k z d' noD (by rw [h.len i hi]; exact hk)]
      by_cases e2 : k = z
      · subst e2; simp
      · rw [if_neg e2, if_neg (by omega)]; exact h.at' i z hi hz
    · rw [if_neg e, if_neg (by omega)]; exact h.at' q z hq hz
theorem El.sum {P Q : Ps} {F : Nat → Nat → D → D} (h : El P Q F) (hq : Q.length = 3) : (P.map List.length).sum = (Q.map List.length).sum := by
  have e : ∀ R : Ps, R.length = 3 → (R.map List.length).sum = (R.getD 0 []).length + (R.getD 1 []).length + (R.getD 2 []).length := fun R hR => by
    match R, hR with
    | [a, b, c], _ => simp; omega
  rw [e P h.pl, e Q hq, h.len 0 (by omega), h.len 1 (by omega), h.len 2 (by omega)]
theorem El.ok {P Q : Ps} {F : Nat → Nat → D → D} (h : El P Q F) {k : Nat} (hg : Gd Q k) (hF : ∀ q z d, q < 3 → 1 ≤ d.kind ∧ d.kind ≤ 4 ∧ d.cell < 4 ∧ d.val ≤ 2 → 1 ≤ (F q z d).kind ∧ (F q z d).kind ≤ 4 ∧ (F q z d).cell < 4 ∧ (F q z d).val ≤ 2) : Gd P k := by
  refine ⟨h.pl, by rw [h.sum hg.pl]; exact hg.sum, fun l hl d hd => ?_⟩
  obtain ⟨q, hq, rfl⟩ := List.mem_iff_getElem.1 hl
  obtain ⟨z, hz, rfl⟩ := List.mem_iff_getElem.1 hd
  have hq3 : q < 3 := by rw [← h.pl]; exact hq
  have e1 : P[q] = P.getD q [] := by rw [List.getD_eq_getElem?_getD, List.getElem?_eq_getElem hq]; rfl
  have hz' : z < (Q.getD q []).length := by rw [← h.len q hq3, ← e1]; exact hz
  have e2 : P[q][z] = (P.getD q []).getD z noD := by
    rw [List.getD_eq_getElem?_getD (l := P.getD q []), ← e1, List.getElem?_eq_getElem hz]; rfl
  rw [e2, h.at' q z hq3 hz']
  have hql : q < Q.length := by rw [hg.pl]; exact hq3
  exact hF q z _ hq3 (hg.do' _ (X.mem_getD Q q [] hql) _ (X.mem_getD _ z noD hz'))
/-- A step of a program that has a cell of its own, and doesn't wait. -/
def chg (q : Nat) (d : D) : D := ⟨if d.kind = 4 then 3 else d.kind, q, d.val⟩

set_option maxHeartbeats 8000000 in
set_option maxRecDepth 100000 in
theorem apart_walk (a0 : Option Addr) (len0 cap0 : Nat) (z0 : List Int) (w : World) (hc0 : len0 ≤ cap0) (hm0 : cap0 ≤ 9223372036854775807) (r0 : IntRow w a0 z0) (e0 : z0.length = len0) :
    Calls Try.prog 5 #[.slice a0 len0 cap0] w fun e w' => e = .returned (.bool true) ∧ Upd [] w w' := by
  have R0 := hid r0; have E0 := hid e0
  clear r0 e0
  go_enter Try.func5, Try.ntmps5
  go_wp2_with fail
  refine (begun_any _).mono ?_
  rintro e w1 ⟨rfl, hu⟩
  have U1 := hid hu
  clear hu
  go_wp2_with fail
  refine (progs_any a0 len0 cap0 z0 12 _ (R0.out.upd U1.out) E0.out hc0 hm0 (by omega)).mono ?_
  rintro e w2 ⟨g, us, P, rfl, hp, hg, hu⟩
  have U2 := hid (U1.out.trans hu (by simp))
  obtain ⟨B, hB⟩ : ∃ B, B = w1.heap.size := ⟨_, rfl⟩
  rw [← hB] at hp
  have HB := hid hB
  have P2 := hid hp
  have G2 := hid hg
  have HWB := hid (show w.heap.size ≤ B by rw [hB]; exact U1.out.size)
  clear hu hp hg hB
  go_wp2_with fail
  go_loopg [17] 3 (fun d v17 wr => ∃ (i : Nat) (Pc : Ps), v17 = .int .i64 (i : Int) ∧ i ≤ 3 ∧ Hid (i + d = 3) ∧ Hid (PB wr B g us Pc) ∧ Hid (El Pc P (fun q _ d => if q < i then chg q d else d)) ∧ Hid (Upd [] w wr))
  case atStart => exact ⟨0, P, rfl, by omega, hid (by omega), P2, (El.start G2.out.pl).congr (fun q z d _ _ => by simp), U2⟩
  case round =>
    clear P2 U2
    obtain ⟨i, Pc, rfl, hi3, Hi, HP, HE, HU⟩ := hrel
    by_cases hi : i < 3
    · have hi' : (i : Int) < 3 := by omega
      have ci := HP.out.cell hi
      obtain ⟨ai, ki, ei, -, -, -⟩ := own_view (HP.out.own i hi)
      rw [ei] at ci
      obtain ⟨m, hm⟩ : ∃ m, m = (Pc.getD i []).length := ⟨_, rfl⟩
      rw [← hm] at ci ei
      have HM := hid hm
      have HEI := hid ei
      have hm12 : m ≤ 12 := by
        have h0 := HE.out.len i hi
        have h1 := le_sum (List.mem_map.2 ⟨_, X.mem_getD P i [] (by rw [G2.out.pl]; exact hi), rfl⟩ : (P.getD i []).length ∈ P.map List.length)
        rw [G2.out.sum] at h1
        omega
      clear hm ei
      go_wp2_with fail
      go_loopg [25] m (fun d v25 wq => ∃ (k : Nat) (Pd : Ps), v25 = .int .i64 (k : Int) ∧ k ≤ m ∧ Hid (k + d = m) ∧ Hid (PB wq B g us Pd) ∧ Hid (El Pd P (fun q z d => if q < i ∨ (q = i ∧ z < k) then chg q d else d)) ∧ Hid (Upd [] w wq))
      case atStart => exact ⟨0, Pc, rfl, by omega, hid (by omega), HP, HE.out.congr (fun q z d _ _ => by simp), HU⟩
      case round =>
        clear HP ci
        obtain ⟨k, Pd, rfl, hkm, Hk, HPd, HEd, HUd⟩ := hrel
        by_cases hk : k < m
        · have hk' : (k : Int) < (m : Int) := by omega
          have hkQ : k < (P.getD i []).length := by have := HM.out; have := HE.out.len i hi; omega
          have hkd : k < (Pd.getD i []).length := by rw [HEd.out.len i hi]; exact hkQ
          obtain ⟨gi, cap2, e2, hgB, c0, c1, c2, fz⟩ := HPd.out.at hi hkd
          have hd0 := HEd.out.at' i k hi hkQ
          rw [if_neg (by omega)] at hd0
          have hmd : (Pd.getD i []).length = m := by rw [HEd.out.len i hi, ← HE.out.len i hi, HM.out]
          have ci := HPd.out.cell hi
          rw [hmd] at e2
          rw [e2] at ci
          obtain ⟨d, hd⟩ : ∃ d, d = (P.getD i []).getD k noD := ⟨_, rfl⟩
          rw [hd0, ← hd] at c0 c1 c2
          obtain ⟨kd, cc, vv⟩ := d
          simp only [nv] at c0 c1 c2
          have f0 := fz (k * 3)
          have f1 := fz (k * 3 + 1)
          have HD := hid hd
          have HD0 := hid hd0
          have HE2 := hid e2
          have HKD := hid hkd
          have HKQ := hid hkQ
          have HGB := hid hgB
          have hp1 := HPd.out.put (x := i) (q := 1) (d' := ⟨kd, i, vv⟩) hi hkd (by omega) (by rw [hd0, ← hd]; rfl) e2
          have he1 := HEd.out.put (d' := ⟨kd, i, vv⟩) hi hkQ
          clear hd hd0 e2 fz c2 hmd hgB
          go_upto_region 12 with (fail)
          obtain ⟨W1, hW1⟩ : ∃ W1, W1 = wr.setCell ⟨gi, k * 3 + 1, none⟩ (.int .i64 (i : Int)) := ⟨_, rfl⟩
          obtain ⟨P1, hP1⟩ : ∃ P1, P1 = Pd.set i ((Pd.getD i []).set k ⟨kd, i, vv⟩) := ⟨_, rfl⟩
          have UW := hid (show Upd [] w W1 by rw [hW1]; exact HUd.out.setCell (.inr (Nat.le_trans HWB.out HGB.out)) _)
          rw [← hP1] at hp1 he1
          have HP1 := hid (show PB W1 B g us P1 by rw [hW1]; exact hp1)
          have HE1 := hid he1
          rw [← hW1]
          clear hW1 hP1 hp1 he1 c0 c1 f0 f1 ci
          have hk1 : k < (P1.getD i []).length := by rw [HE1.out.len i hi]; exact HKQ.out
          obtain ⟨gj, cap3, e3, -, c0, c1, c2, fz⟩ := HP1.out.at hi hk1
          have hg3 : gj = gi := by
            have := HE2.out
            rw [e3] at this
            simp only [Value.slice.injEq, Option.some.injEq, Addr.mk.injEq] at this
            exact this.1.1
          subst hg3
          have hd1 := HE1.out.at' i k hi HKQ.out
          rw [if_pos ⟨rfl, rfl⟩] at hd1
          rw [hd1] at c0
          simp only [nv] at c0
          have f0 := fz (k * 3)
          have ci := HP1.out.cell hi
          rw [HE2.out] at ci
          have fin : ∀ dd : D, (dd = chg i ⟨kd, cc, vv⟩) → ∀ q z x, q < 3 → z < (P.getD q []).length → x = (P.getD q []).getD z noD → (if q = i ∧ z = k then dd else if q < i ∨ (q = i ∧ z < k) then chg q x else x) = (if q < i ∨ (q = i ∧ z < k + 1) then chg q x else x) := fun dd hdd q z x _ _ hx => by
            by_cases h1 : q = i ∧ z = k
            · obtain ⟨rfl, rfl⟩ := h1
              rw [if_pos ⟨rfl, rfl⟩, if_pos (.inr ⟨rfl, by omega⟩), hx, ← HD.out, hdd]
            · rw [if_neg h1]
              by_cases h2 : q < i ∨ (q = i ∧ z < k)
              · rw [if_pos h2, if_pos (by omega)]
              · rw [if_neg h2, if_neg (by omega)]
          have HFIN := hid fin
          clear fz c1 c2 hd1 e3 fin
          by_cases hkd4 : kd = 4
          · subst hkd4
            have hp2 := HP1.out.put (x := 3) (q := 0) (d' := ⟨3, i, vv⟩) hi hk1 (by omega) (by rw [HE1.out.at' i k hi HKQ.out, if_pos ⟨rfl, rfl⟩]; rfl) HE2.out
            have he2 := HE1.out.put (d' := ⟨3, i, vv⟩) hi HKQ.out
            have HP2 := hid hp2
            have HE3 := hid he2
            clear hp2 he2
            go_wp2_with fail
            go_roundg (m - (k + 1))
            case measure => have := Hk.out; omega
            case rel =>
              refine ⟨k + 1, _, by go_num, by omega, by show _ = _; omega, HP2, ⟨HE3.out.pl, HE3.out.len, fun q z hq hz => ?_⟩, UW.out.setCell (.inr (Nat.le_trans HWB.out HGB.out)) _⟩
              rw [HE3.out.at' q z hq hz, ← HFIN.out ⟨3, i, vv⟩ rfl q z _ hq hz rfl]
              by_cases h1 : q = i ∧ z = k
              · rw [if_pos h1, if_pos h1]
              · rw [if_neg h1, if_neg h1, if_neg h1]
          · have hkd4i : ¬ (kd : Int) = 4 := by omega
            go_wp2_with fail
            go_roundg (m - (k + 1))
            case measure => have := Hk.out; omega
            case rel =>
              refine ⟨k + 1, P1, by go_num, by omega, by show _ = _; omega, HP1, ⟨HE1.out.pl, HE1.out.len, fun q z hq hz => ?_⟩, UW.out⟩
              rw [HE1.out.at' q z hq hz, ← HFIN.out ⟨kd, i, vv⟩ (by unfold chg; rw [if_neg hkd4]) q z _ hq hz rfl]
        · obtain rfl : m = k := by omega
          go_wp2_with fail
          go_roundg (3 - (i + 1))
          case measure => have := Hi.out; omega
          case rel =>
            refine ⟨i + 1, Pd, by go_num, by omega, by show _ = _; omega, HPd, HEd.out.congr (fun q z d hq hz => ?_), HUd⟩
            by_cases h1 : q < i
            · rw [if_pos (.inl h1), if_pos (by omega)]
            · by_cases h2 : q = i
              · subst h2
                rw [if_pos (.inr ⟨rfl, by have := HM.out; have := HE.out.len q hi; omega⟩), if_pos (by omega)]
              · rw [if_neg (by omega), if_neg (by omega)]
    · obtain rfl : i = 3 := by omega
      have hgd : Gd Pc (min len0 12) := HE.out.ok G2.out (fun q z d hq hd => by
        rw [if_pos hq]
        unfold chg
        refine ⟨?_, ?_, by show q < 4; omega, hd.2.2.2⟩
        · show 1 ≤ if d.kind = 4 then 3 else d.kind
          split <;> omega
        · show (if d.kind = 4 then 3 else d.kind) ≤ 4
          split <;> omega)
      have hok := hgd.ok (by omega)
      have hfree : X.Free Pc := X.free_of (fun q z hz => by
        by_cases hq : q < 3
        · have hz' : z < (P.getD q []).length := by rw [← HE.out.len q hq]; exact hz
          rw [HE.out.at' q z hq hz', if_pos hq]; rfl
        · rw [show Pc.getD q [] = [] by rw [List.getD_eq_getElem?_getD, List.getElem?_eq_none (by rw [HE.out.pl]; omega)]; rfl] at hz
          simp at hz)
      have hl3 := HE.out.pl
      have h1 : (found Pc).length = 1 := X.free_one hfree (rem13 hok) (SOk.wf hok (sok_zero hok))
      have h2 : (endsOf Pc).length = 1 := by
        unfold endsOf
        match hf : found Pc, h1 with
        | [x], _ => rfl
      have EN := ends_any (some ⟨g, 0, none⟩) 3 Pc wr HP.out.pAt HP.out.pNil (by omega) (by omega) (by omega) hok
      have OR := hid fun (wz : World) (u : Upd [] wr wz) => orders_any (some ⟨g, 0, none⟩) 3 Pc wz (HP.out.new u).pAt (HP.out.new u).pNil (by omega) (by omega) (by omega) hok
      rw [hl3] at EN OR
      rw [h1] at OR
      clear HE HP hgd hok hfree
      go_wp2_with fail
      refine EN.mono ?_
      rintro e w5 ⟨v5, L, rfl, ho, hp, hu⟩
      have hL : L.length = 1 := by rw [hp.length_eq, h2]
      rw [hL] at ho
      obtain ⟨a5, k5, e5, -, -, -⟩ := own_view ho
      subst e5
      have HU5 := hid hu
      clear ho hp hu EN
      go_wp2_with fail
      refine (OR.out _ HU5.out).mono ?_
      rintro e w6 ⟨v6, us6, rfl, ho, -, -, hu⟩
      obtain ⟨a6, k6, e6, -, -, -⟩ := own_view ho
      subst e6
      have HU6 := hid (HU.out.trans (HU5.out.trans hu (by simp)) (by simp))
      clear ho hu OR
      go_wp2_with fail
      go_ret
      exact ⟨rfl, HU6.out⟩
end Go.Proofs.Ytklacfdbpmkiiaa.Y
