/- The walk of ExploreAdds. -/
import Derived.Test.YtklacfdbpmkiiaaYk
namespace Go.Proofs.Ytklacfdbpmkiiaa.Y
open Go Go.RowKit Go.Proofs.Ytklacfdbpmkiiaa Go.Proofs.Ytklacfdbpmkiiaa.K Go.Proofs.Ytklacfdbpmkiiaa.M Go.Proofs.Ytklacfdbpmkiiaa.O Go.Proofs.Ytklacfdbpmkiiaa.R Go.Proofs.Ytklacfdbpmkiiaa.A Go.Proofs.Ytklacfdbpmkiiaa.MS
open Go.Proofs.Ytklacfdbpmkiiaa.X (D St Ps noD act wr dep may newC newH stp)

theorem PB.keep {w w' : World} {B g : Nat} {us : List Value} {P : Ps} (h : PB w B g us P) {b : Nat} (u : Upd [b] w w') (hb : ∀ cs f, w.heap[b]? ≠ some (.cells cs 46 f) ∧ w.heap[b]? ≠ some (.cells cs 49 f)) : PB w' B g us P :=
  ⟨h.pl, h.ul, h.gB, u.blk h.blk (fun hm => by
    have e : g = b := by simpa using hm
    subst e; exact (hb _ _).1 h.blk), fun i hi => own_upd (h.own i hi) u (fun k hk hm => by
    have e : k = b := by simpa using hm
    subst e
    obtain ⟨cur, hc⟩ := own_block (h.own i hi) k hk
    exact (hb _ _).2 hc), h.apart, h.nil⟩
/-- What is to be in a cell, as far as is counted. -/
def want (P : Ps) (i k c : Nat) : Nat := ((List.range i).map (fun q => X.tot (P.getD q []) c)).sum + X.tot ((P.getD i []).take k) c
theorem tot_le {l : List D} (h : ∀ d ∈ l, d.val ≤ 2) (c : Nat) : X.tot l c ≤ 2 * l.length := by
  induction l with
  | nil => simp [X.tot]
  | cons d l ih =>
    have h1 := ih (fun x hx => h x (by simp [hx]))
    have h2 := h d (by simp)
    simp only [X.tot, List.map_cons, List.sum_cons, List.length_cons] at *
    split <;> omega
theorem want_le {P : Ps} {n : Nat} (hg : Gd P n) {i k : Nat} (hi : i < 3) (c : Nat) : want P i k c ≤ 2 * n := by
  have hv : ∀ q, q < 3 → X.tot (P.getD q []) c ≤ 2 * (P.getD q []).length := fun q hq => tot_le (fun d hd => (hg.do' _ (X.mem_getD P q [] (by rw [hg.pl]; exact hq)) d hd).2.2.2) c
  have ht : X.tot ((P.getD i []).take k) c ≤ 2 * (P.getD i []).length := by
    refine Nat.le_trans (tot_le (fun d hd => (hg.do' _ (X.mem_getD P i [] (by rw [hg.pl]; exact hi)) d (List.mem_of_mem_take hd)).2.2.2) c) ?_
    rw [List.length_take]; omega
  have hs : (P.getD 0 []).length + (P.getD 1 []).length + (P.getD 2 []).length = n := by
    rw [← hg.sum]
    match P, hg.pl with
    | [a, b, c], _ => simp; omega
  have h0 := hv 0 (by omega)
  have h1 := hv 1 (by omega)
  unfold want
  rcases (show i = 0 ∨ i = 1 ∨ i = 2 by omega) with rfl | rfl | rfl
  · rw [show List.range 0 = [] from rfl]; simp only [List.map_nil, List.sum_nil]; omega
  · rw [show List.range 1 = [0] from rfl]; simp only [List.map_cons, List.map_nil, List.sum_cons, List.sum_nil]; omega
  · rw [show List.range 2 = [0, 1] from rfl]; simp only [List.map_cons, List.map_nil, List.sum_cons, List.sum_nil]; omega
theorem want_step {P : Ps} {i k : Nat} (hk : k < (P.getD i []).length) (c : Nat) : want P i (k + 1) c = if c = ((P.getD i []).getD k noD).cell then want P i k c + ((P.getD i []).getD k noD).val else want P i k c := by
  unfold want
  rw [X.take_snoc _ _ hk, X.tot_snoc]
  by_cases e : ((P.getD i []).getD k noD).cell = c
  · rw [if_pos e, if_pos e.symm]; omega
  · rw [if_neg e, if_neg (fun q => e q.symm)]; omega
theorem want_next {P : Ps} {i : Nat} (c : Nat) : want P (i + 1) 0 c = want P i (P.getD i []).length c := by
  unfold want
  rw [List.take_length, List.take_zero, List.range_succ, List.map_append, List.sum_append]
  simp [X.tot]
theorem addAll_same {a : St} : ∀ {xs : List St}, (∀ e ∈ xs, e = a) → xs ≠ [] → addAll [] xs = [a]
  | [], _, h => absurd rfl h
  | x :: xs, h, _ => by
    have hx : x = a := h x (by simp)
    subst hx
    show addAll (if x ∈ [] then [] else [] ++ [x]) xs = [x]
    rw [if_neg (by simp), List.nil_append]
    have : ∀ ys : List St, (∀ e ∈ ys, e = x) → addAll [x] ys = [x] := fun ys => by
      induction ys with
      | nil => intro _; rfl
      | cons y ys ih =>
        intro hy
        show addAll (if y ∈ [x] then [x] else [x] ++ [y]) ys = [x]
        rw [if_pos (by rw [hy y (by simp)]; simp)]
        exact ih (fun e he => hy e (by simp [he]))
    exact this xs (fun e he => h e (by simp [he]))
theorem ends_adds {P : Ps} (ok : Ok P) (ha : X.Adds P) : endsOf P = [X.addEnd P] := by
  unfold endsOf
  refine addAll_same (fun e he => ?_) (fun h => ?_)
  · obtain ⟨x, hx, rfl⟩ := List.mem_map.1 he
    obtain ⟨h1, h2⟩ := X.found 13 X.zeroSt _ x (rem13 ok) (SOk.wf ok (sok_zero ok)) hx
    exact X.add_end ha h1 h2
  · have := ends_ne ok
    unfold endsOf at this
    rw [h] at this; exact this rfl
/-- Three that take, and put back one more. -/
def inc : List D := [⟨1, 0, 0⟩, ⟨2, 0, 1⟩]
def Pinc : Ps := [inc, inc, inc]
theorem ok_inc : Ok Pinc := ⟨by decide, by decide, by decide⟩
set_option maxRecDepth 100000 in
theorem lost1 : (endsOf Pinc).all (fun s => decide (1 ≤ s.c.getD 0 0) && decide (s.c.getD 0 0 ≤ 3)) = true := by kernel_rfl
set_option maxRecDepth 100000 in
theorem lost2 : (endsOf Pinc).any (fun s => decide (s.c.getD 0 0 = 1)) = true := by kernel_rfl
set_option maxRecDepth 100000 in
theorem lost3 : (endsOf Pinc).any (fun s => decide (s.c.getD 0 0 = 3)) = true := by kernel_rfl
theorem inc_at (_w : World) (_h : World) : True := trivial
/-- The same program three times, as the text lays it. -/
theorem lit3 {w : World} {b : Nat} (hb : w.heap[b]? = some (.cells #[.int .i64 1, .int .i64 0, .int .i64 0, .int .i64 2, .int .i64 0, .int .i64 1] 49 (0, 0))) :
    PAt (w.alloc (.cells #[.slice (some ⟨b, 0, none⟩) 2 2, .slice (some ⟨b, 0, none⟩) 2 2, .slice (some ⟨b, 0, none⟩) 2 2] 46)) (some ⟨w.heap.size, 0, none⟩) Pinc ∧
    PNil (w.alloc (.cells #[.slice (some ⟨b, 0, none⟩) 2 2, .slice (some ⟨b, 0, none⟩) 2 2, .slice (some ⟨b, 0, none⟩) 2 2] 46)) (some ⟨w.heap.size, 0, none⟩) Pinc := by
  have b3 := K.blk_alloc hb (.cells #[.slice (some ⟨b, 0, none⟩) 2 2, .slice (some ⟨b, 0, none⟩) 2 2, .slice (some ⟨b, 0, none⟩) 2 2] 46)
  have d3 := K.blk_new w (.cells #[.slice (some ⟨b, 0, none⟩) 2 2, .slice (some ⟨b, 0, none⟩) 2 2, .slice (some ⟨b, 0, none⟩) 2 2] 46)
  have hd : ∀ i, i < 3 → Pinc.getD i [] = inc := fun i hi => by
    rcases (show i = 0 ∨ i = 1 ∨ i = 2 by omega) with rfl | rfl | rfl <;> rfl
  have hda : DoAt (w.alloc (.cells #[.slice (some ⟨b, 0, none⟩) 2 2, .slice (some ⟨b, 0, none⟩) 2 2, .slice (some ⟨b, 0, none⟩) 2 2] 46)) (some ⟨b, 0, none⟩) inc := fun k hk => by
    rcases (show k = 0 ∨ k = 1 by simp [inc] at hk; omega) with rfl | rfl
    · exact ⟨_, _, rfl, b3, rfl, rfl, rfl⟩
    · exact ⟨_, _, rfl, b3, rfl, rfl, rfl⟩
  refine ⟨fun i hi => ?_, fun i hi he => ?_⟩
  · have hi3 : i < 3 := hi
    rw [hd i hi3]
    refine ⟨_, _, some ⟨b, 0, none⟩, 2, rfl, d3, ?_, by decide, by omega, hda⟩
    rcases (show i = 0 ∨ i = 1 ∨ i = 2 by omega) with rfl | rfl | rfl <;> rfl
  · have hi3 : i < 3 := hi
    rw [hd i hi3] at he; cases he

set_option maxHeartbeats 8000000 in
set_option maxRecDepth 100000 in
theorem adds_walk (a0 : Option Addr) (len0 cap0 : Nat) (z0 : List Int) (w : World) (hc0 : len0 ≤ cap0) (hm0 : cap0 ≤ 9223372036854775807) (r0 : IntRow w a0 z0) (e0 : z0.length = len0) :
    Calls Try.prog 4 #[.slice a0 len0 cap0] w fun e w' => e = .returned (.bool true) ∧ Upd [] w w' := by
  have R0 := hid r0; have E0 := hid e0
  clear r0 e0
  go_enter Try.func4, Try.ntmps4
  go_wp2_with fail
  refine (begun_any _).mono ?_
  rintro e w1 ⟨rfl, hu⟩
  have U1 := hid hu
  clear hu
  go_wp2_with fail
  refine (progs_any a0 len0 cap0 z0 9 _ (R0.out.upd U1.out) E0.out hc0 hm0 (by omega)).mono ?_
  rintro e w2 ⟨g, us, P, rfl, hp, hg, hu⟩
  have U2 := hid (U1.out.trans hu (by simp))
  obtain ⟨B, hB⟩ : ∃ B, B = w1.heap.size := ⟨_, rfl⟩
  rw [← hB] at hp
  have HWB := hid (show w.heap.size ≤ B by rw [hB]; exact U1.out.size)
  have G2 := hid hg
  obtain ⟨wb, hwb⟩ : ∃ wb, wb = w2.heap.size := ⟨_, rfl⟩
  have HWW := hid (show w.heap.size ≤ wb by rw [hwb]; exact U2.out.size)
  have P2 := hid (hp.new ((Upd.refl [] w2).alloc (.cells #[.int .i64 0, .int .i64 0, .int .i64 0, .int .i64 0] 33)))
  have A2 : Hid (Arr (w2.alloc (.cells #[.int .i64 0, .int .i64 0, .int .i64 0, .int .i64 0] 33)) wb 33 4 (fun c => nv (want P 0 0 c))) := by
    rw [hwb]
    refine arr_new w2 [_, _, _, _] 33 4 _ rfl (fun z hz => ?_)
    have e : want P 0 0 z = 0 := by simp [want, X.tot]
    rw [e]
    rcases (show z = 0 ∨ z = 1 ∨ z = 2 ∨ z = 3 by omega) with rfl | rfl | rfl | rfl <;> rfl
  have U3 := hid (U2.out.alloc (.cells #[.int .i64 0, .int .i64 0, .int .i64 0, .int .i64 0] 33))
  clear hu hp hg hB
  go_wp2_with fail
  rw [← hwb]
  clear hwb
  go_loopg [22] 3 (fun d v22 wr => ∃ (i : Nat) (Pc : Ps), v22 = .int .i64 (i : Int) ∧ i ≤ 3 ∧ Hid (i + d = 3) ∧ Hid (PB wr B g us Pc) ∧ Hid (El Pc P (fun q _ d => if q < i then ⟨3, d.cell, d.val⟩ else d)) ∧ Hid (Arr wr wb 33 4 (fun c => nv (want P i 0 c))) ∧ Hid (Upd [] w wr))
  case atStart => exact ⟨0, P, rfl, by omega, hid (by omega), P2, (El.start G2.out.pl).congr (fun q z d _ _ => by simp), A2, U3⟩
  case round =>
    clear P2 A2 U3 U2
    obtain ⟨i, Pc, rfl, hi3, Hi, HP, HE, HA, HU⟩ := hrel
    by_cases hi : i < 3
    · have hi' : (i : Int) < 3 := by omega
      have ci := HP.out.cell hi
      obtain ⟨ai, ki, ei, -, -, -⟩ := own_view (HP.out.own i hi)
      rw [ei] at ci
      obtain ⟨m, hm⟩ : ∃ m, m = (Pc.getD i []).length := ⟨_, rfl⟩
      rw [← hm] at ci ei
      have HM := hid hm
      have hm12 : m ≤ 12 := by
        have h0 := HE.out.len i hi
        have h1 := le_sum (List.mem_map.2 ⟨_, X.mem_getD P i [] (by rw [G2.out.pl]; exact hi), rfl⟩ : (P.getD i []).length ∈ P.map List.length)
        rw [G2.out.sum] at h1
        omega
      clear hm ei
      go_wp2_with fail
      go_loopg [30] m (fun d v30 wq => ∃ (k : Nat) (Pd : Ps), v30 = .int .i64 (k : Int) ∧ k ≤ m ∧ Hid (k + d = m) ∧ Hid (PB wq B g us Pd) ∧ Hid (El Pd P (fun q z d => if q < i ∨ (q = i ∧ z < k) then ⟨3, d.cell, d.val⟩ else d)) ∧ Hid (Arr wq wb 33 4 (fun c => nv (want P i k c))) ∧ Hid (Upd [] w wq))
      case atStart => exact ⟨0, Pc, rfl, by omega, hid (by omega), HP, HE.out.congr (fun q z d _ _ => by simp), HA, HU⟩
      case round =>
        clear HP ci HA
        obtain ⟨k, Pd, rfl, hkm, Hk, HPd, HEd, HAd, HUd⟩ := hrel
        by_cases hk : k < m
        · have hk' : (k : Int) < (m : Int) := by omega
          have hkQ : k < (P.getD i []).length := by have := HM.out; have := HE.out.len i hi; omega
          have hkd : k < (Pd.getD i []).length := by rw [HEd.out.len i hi]; exact hkQ
          obtain ⟨gi, cap2, e2, hgB, c0, c1, c2, fz⟩ := HPd.out.at hi hkd
          have hd0 := HEd.out.at' i k hi hkQ
          rw [if_neg (by omega)] at hd0
          have hmd : (Pd.getD i []).length = m := by rw [HEd.out.len i hi, ← HE.out.len i hi, HM.out]
          have ci := HPd.out.cell hi
          rw [hmd] at e2
          rw [e2] at ci
          obtain ⟨d, hd⟩ : ∃ d, d = (P.getD i []).getD k noD := ⟨_, rfl⟩
          rw [hd0, ← hd] at c0 c1 c2
          have hgo := G2.out.do' _ (X.mem_getD P i [] (by rw [G2.out.pl]; exact hi)) _ (X.mem_getD _ k noD hkQ)
          rw [← hd] at hgo
          obtain ⟨kd, cc, vv⟩ := d
          simp only [nv] at c0 c1 c2 hgo
          have f0 := fz (k * 3)
          have HD := hid hd
          have HE2 := hid e2
          have HKQ := hid hkQ
          have HGB := hid hgB
          have hp1 := HPd.out.put (x := 3) (q := 0) (d' := ⟨3, cc, vv⟩) hi hkd (by omega) (by rw [hd0, ← hd]; rfl) e2
          have he1 := HEd.out.put (d' := ⟨3, cc, vv⟩) hi hkQ
          have hgw : wb ≠ gi := by
            obtain ⟨cs, hb, -⟩ := HAd.out
            exact fun e => own_cells_ne (HPd.out.own i hi) hb (by decide) gi (by rw [e2]; rfl) e.symm
          have ha1 := HAd.out.far (p := ⟨gi, k * 3 + 0, none⟩) hgw (nv 3)
          clear hd hd0 e2 fz c1 c2 hmd hgB
          go_upto_region 13 with (fail)
          obtain ⟨W1, hW1⟩ : ∃ W1, W1 = wr.setCell ⟨gi, k * 3, none⟩ (.int .i64 3) := ⟨_, rfl⟩
          obtain ⟨P1, hP1⟩ : ∃ P1, P1 = Pd.set i ((Pd.getD i []).set k ⟨3, cc, vv⟩) := ⟨_, rfl⟩
          have UW := hid (show Upd [] w W1 by rw [hW1]; exact HUd.out.setCell (.inr (Nat.le_trans HWB.out HGB.out)) _)
          rw [← hP1] at hp1 he1
          have HP1 := hid (show PB W1 B g us P1 by rw [hW1]; exact hp1)
          have HA1 := hid (show Arr W1 wb 33 4 (fun c => nv (want P i k c)) by rw [hW1]; exact ha1)
          have HE1 := hid he1
          rw [← hW1]
          clear hW1 hP1 hp1 he1 c0 f0 ci ha1
          have hk1 : k < (P1.getD i []).length := by rw [HE1.out.len i hi]; exact HKQ.out
          obtain ⟨gj, cap3, e3, -, c0, c1, c2, fz⟩ := HP1.out.at hi hk1
          have hg3 : gj = gi := by
            have := HE2.out
            rw [e3] at this
            simp only [Value.slice.injEq, Option.some.injEq, Addr.mk.injEq] at this
            exact this.1.1
          subst hg3
          have hd1 := HE1.out.at' i k hi HKQ.out
          rw [if_pos ⟨rfl, rfl⟩] at hd1
          rw [hd1] at c1 c2
          simp only [nv] at c1 c2
          obtain ⟨ww, hww⟩ : ∃ ww, ww = want P i k cc := ⟨_, rfl⟩
          have hwl := want_le G2.out (i := i) (k := k) hi cc
          rw [← hww] at hwl
          have cw := HA1.out.val (z := cc) hgo.2.2.1 (v := .int .i64 (ww : Int)) (by rw [hww]; rfl)
          have fw := HA1.out.fro cc
          have lw := HA1.out.lt
          have lg := cell_lt c1
          have HWS := hid hww
          have hcc4 : (cc : Int) < 4 := by omega
          have hn18 : ww ≤ 18 := by omega
          clear fz c0 hd1 e3 hww hwl
          go_region
          go_wp2_with fail
          go_roundg (m - (k + 1))
          case measure => have := Hk.out; omega
          case rel =>
            have u1 : Upd [wb] W1 (W1.setCell ⟨wb, cc, none⟩ (.int .i64 ((ww : Int) + (vv : Int)))) := (Upd.refl _ _).setCell (.inl (by simp)) _
            have hnw : ∀ cs f, W1.heap[wb]? ≠ some (.cells cs 46 f) ∧ W1.heap[wb]? ≠ some (.cells cs 49 f) := fun cs f => by
              obtain ⟨cs', hb, -⟩ := HA1.out
              exact ⟨fun h => by (rw [hb] at h; cases h), fun h => by (rw [hb] at h; cases h)⟩
            refine ⟨k + 1, P1, by go_num, by omega, by show _ = _; omega, (HP1.out.keep u1 hnw).new ((Upd.refl [] _).drew), ⟨HE1.out.pl, HE1.out.len, fun q z hq hz => ?_⟩, ?_, (UW.out.setCell (.inr HWW.out) _).drew⟩
            · rw [HE1.out.at' q z hq hz]
              by_cases h1 : q = i ∧ z = k
              · obtain ⟨rfl, rfl⟩ := h1
                rw [if_pos ⟨rfl, rfl⟩, if_pos (.inr ⟨rfl, by omega⟩), ← HD.out]
              · rw [if_neg h1]
                by_cases h2 : q < i ∨ (q = i ∧ z < k)
                · rw [if_pos h2, if_pos (by omega)]
                · rw [if_neg h2, if_neg (by omega)]
            · show Arr (W1.setCell _ _) wb 33 4 _
              refine (HA1.out.set cc _).congr (fun z hz => ?_)
              rw [want_step HKQ.out, ← HD.out]
              by_cases e : z = cc
              · subst e; rw [if_pos rfl, if_pos rfl, ← HWS.out]; rfl
              · rw [if_neg e, if_neg e]
        · obtain rfl : m = k := by omega
          go_wp2_with fail
          go_roundg (3 - (i + 1))
          case measure => have := Hi.out; omega
          case rel =>
            refine ⟨i + 1, Pd, by go_num, by omega, by show _ = _; omega, HPd, HEd.out.congr (fun q z d hq hz => ?_), HAd.out.congr (fun z hz => ?_), HUd⟩
            · by_cases h1 : q < i
              · rw [if_pos (.inl h1), if_pos (by omega)]
              · by_cases h2 : q = i
                · subst h2
                  rw [if_pos (.inr ⟨rfl, by have := HM.out; have := HE.out.len q hi; omega⟩), if_pos (by omega)]
                · rw [if_neg (by omega), if_neg (by omega)]
            · rw [want_next, show (P.getD i []).length = m by rw [HM.out, HE.out.len i hi]]
    · obtain rfl : i = 3 := by omega
      have hgd : Gd Pc (min len0 9) := HE.out.ok G2.out (fun q z d hq hd => by
        rw [if_pos hq]
        exact ⟨(by omega : 1 ≤ 3), (by omega : 3 ≤ 4), hd.2.2.1, hd.2.2.2⟩)
      have hok := hgd.ok (by omega)
      have hl3 := HE.out.pl
      have hadd : X.Adds Pc := ⟨by rw [hl3]; decide, fun l hl d hd => by
        obtain ⟨q, hq, rfl⟩ := List.mem_iff_getElem.1 hl
        obtain ⟨z, hz, rfl⟩ := List.mem_iff_getElem.1 hd
        have hq3 : q < 3 := by rw [← hl3]; exact hq
        have e1 : Pc[q] = Pc.getD q [] := by rw [List.getD_eq_getElem?_getD, List.getElem?_eq_getElem hq]; rfl
        have hz' : z < (P.getD q []).length := by rw [← HE.out.len q hq3, ← e1]; exact hz
        have e2 : Pc[q][z] = (Pc.getD q []).getD z noD := by
          rw [List.getD_eq_getElem?_getD (l := Pc.getD q []), ← e1, List.getElem?_eq_getElem hz]; rfl
        rw [e2, HE.out.at' q z hq3 hz', if_pos hq3]
        exact ⟨rfl, (G2.out.do' _ (X.mem_getD P q [] (by rw [G2.out.pl]; exact hq3)) _ (X.mem_getD _ z noD hz')).2.2.1⟩⟩
      have hends := ends_adds hok hadd
      have htot : ∀ q c, q < 3 → X.tot (Pc.getD q []) c = X.tot (P.getD q []) c := fun q c hq => by
        have hm : (Pc.getD q []).map (fun d => if d.cell = c then d.val else 0) = (P.getD q []).map (fun d => if d.cell = c then d.val else 0) := by
          apply List.ext_getElem?
          intro z
          rw [List.getElem?_map, List.getElem?_map]
          by_cases hz : z < (P.getD q []).length
          · have hz' : z < (Pc.getD q []).length := by rw [HE.out.len q hq]; exact hz
            have h := HE.out.at' q z hq hz
            rw [if_pos hq, List.getD_eq_getElem?_getD (l := Pc.getD q []), List.getD_eq_getElem?_getD (l := P.getD q []), List.getElem?_eq_getElem hz, List.getElem?_eq_getElem hz'] at h
            rw [List.getElem?_eq_getElem hz, List.getElem?_eq_getElem hz']
            simp only [Option.getD_some] at h
            simp only [Option.map_some, h]
          · have hz' : ¬ z < (Pc.getD q []).length := by rw [HE.out.len q hq]; exact hz
            rw [List.getElem?_eq_none (Nat.le_of_not_lt hz), List.getElem?_eq_none (Nat.le_of_not_lt hz')]
        unfold X.tot; rw [hm]
      have hc : ∀ c, c < 4 → (X.addEnd Pc).c.getD c 0 = want P 3 0 c := fun c hc => by
        have e : ((List.range Pc.length).map (fun i => X.tot (Pc.getD i []) c)).sum = want P 3 0 c := by
          unfold want
          rw [hl3, show List.range 3 = [0, 1, 2] from rfl]
          simp only [List.map_cons, List.map_nil, htot 0 c (by omega), htot 1 c (by omega), htot 2 c (by omega)]
          simp [X.tot]
        rw [← e]
        rcases (show c = 0 ∨ c = 1 ∨ c = 2 ∨ c = 3 by omega) with rfl | rfl | rfl | rfl <;> rfl
      have EN := ends_any (some ⟨g, 0, none⟩) 3 Pc wr HP.out.pAt HP.out.pNil (by omega) (by omega) (by omega) hok
      rw [hl3] at EN
      have HC := hid hc
      have HENDS := hid hends
      clear HE HP hgd hok hadd htot hc hends
      go_wp2_with fail
      refine EN.mono ?_
      rintro e w5 ⟨v5, L, rfl, ho, hp, hu⟩
      rw [HENDS.out] at hp
      obtain rfl : L = [X.addEnd Pc] := List.perm_singleton.1 hp
      obtain ⟨a5, k5, e5, -, -, hc5⟩ := own_view ho
      subst e5
      have gt0 : ∀ q, q < 4 → ∃ ge, a5 = some ⟨ge, 0, none⟩ ∧ w5.cell? ⟨ge, q, none⟩ = some (nv (want P 3 0 q)) := fun q hq => by
        obtain ⟨ge, e, -, h, -⟩ := hc5 q (nv (want P 3 0 q)) (by
          have h := scells_get [X.addEnd Pc] 0 q (by simp) (by omega)
          rw [Nat.zero_mul, Nat.zero_add] at h
          rw [h]
          show (stl (X.addEnd Pc))[q]? = _
          rw [stl_c _ q hq, HC.out q hq])
        exact ⟨ge, e, h⟩
      obtain ⟨ge, rfl, q0⟩ := gt0 0 (by omega)
      obtain ⟨g', e', q1⟩ := gt0 1 (by omega)
      cases e'
      obtain ⟨g', e', q2⟩ := gt0 2 (by omega)
      cases e'
      obtain ⟨g', e', q3⟩ := gt0 3 (by omega)
      cases e'
      have HA5 := HA.out.upd hu (by simp)
      obtain ⟨w0', hw0⟩ : ∃ x, x = want P 3 0 0 := ⟨_, rfl⟩
      obtain ⟨w1', hw1⟩ : ∃ x, x = want P 3 0 1 := ⟨_, rfl⟩
      obtain ⟨w2', hw2⟩ : ∃ x, x = want P 3 0 2 := ⟨_, rfl⟩
      obtain ⟨w3', hw3⟩ : ∃ x, x = want P 3 0 3 := ⟨_, rfl⟩
      have p0 := HA5.val (z := 0) (by decide) (v := .int .i64 (w0' : Int)) (by rw [hw0]; rfl)
      have p1 := HA5.val (z := 1) (by decide) (v := .int .i64 (w1' : Int)) (by rw [hw1]; rfl)
      have p2 := HA5.val (z := 2) (by decide) (v := .int .i64 (w2' : Int)) (by rw [hw2]; rfl)
      have p3 := HA5.val (z := 3) (by decide) (v := .int .i64 (w3' : Int)) (by rw [hw3]; rfl)
      rw [← hw0] at q0
      rw [← hw1] at q1
      rw [← hw2] at q2
      rw [← hw3] at q3
      have heq : ∀ wz, (Op.equalIn 10000 33 (.agg #[nv w0', nv w1', nv w2', nv w3']) (.agg #[nv w0', nv w1', nv w2', nv w3'])).run Try.prog wz = .ok true wz := fun wz => by
        have := eq33 9998 w0' w1' w2' w3' w0' w1' w2' w3' wz
        simpa using this
      unfold nv at heq q0 q1 q2 q3
      have HU5 := hid (HU.out.trans hu (by simp))
      clear ho hp hu EN hc5 gt0 HA5 hw0 hw1 hw2 hw3 HA
      go_upto_region 17 with (fail)
      go_quiet (fail)
      obtain ⟨V, hV⟩ : ∃ V, V = w5.drewN nq := ⟨_, rfl⟩
      have UV := hid (show Upd [] w V by rw [hV]; exact HU5.out.drewN _)
      rw [← hV]
      clear hV q0 q1 q2 q3 p0 p1 p2 p3 heq
      go_upto_region 20 with (fail)
      obtain ⟨W8, hW8⟩ : ∃ W8, W8 = V.alloc (.cells #[.int .i64 1, .int .i64 0, .int .i64 0, .int .i64 2, .int .i64 0, .int .i64 1] 49) := ⟨_, rfl⟩
      have hb8 : W8.heap[V.heap.size]? = some (.cells #[.int .i64 1, .int .i64 0, .int .i64 0, .int .i64 2, .int .i64 0, .int .i64 1] 49 (0, 0)) := by rw [hW8]; exact K.blk_new _ _
      have U8 := hid (show Upd [] w W8 by rw [hW8]; exact UV.out.alloc _)
      rw [← hW8]
      clear hW8
      have EN2 := ends_any (some ⟨W8.heap.size, 0, none⟩) 3 Pinc _ (lit3 hb8).1 (lit3 hb8).2 (by decide) (by decide) (by decide) ok_inc
      rw [show Pinc.length = 3 from rfl] at EN2
      clear hb8
      go_wp2_with fail
      refine EN2.mono ?_
      rintro e w9 ⟨v9, L, rfl, ho, hp, hu⟩
      obtain ⟨a9, k9, e9, -, -, hc9⟩ := own_view ho
      subst e9
      have HO9 := hid ho
      have HP9 := hid hp
      have U9 := hid ((U8.out.alloc (.cells #[.slice (some ⟨V.heap.size, 0, none⟩) 2 2, .slice (some ⟨V.heap.size, 0, none⟩) 2 2, .slice (some ⟨V.heap.size, 0, none⟩) 2 2] 46)).trans hu (by simp))
      obtain ⟨nL, hnL⟩ : ∃ nL, nL = L.length := ⟨_, rfl⟩
      have hnb : nL ≤ 1000000000 := by
        rw [hnL, hp.length_eq]
        refine Nat.le_trans (addAll_len _ _) ?_
        have := found_len ok_inc (by decide)
        simp only [List.length_nil, List.length_map, Nat.zero_add]
        exact Nat.le_trans this (by decide)
      rw [← hnL]
      have HNL := hid hnL
      have HC9 := hid (show ∀ z, z < L.length → 1 ≤ (L.getD z X.zeroSt).c.getD 0 0 ∧ (L.getD z X.zeroSt).c.getD 0 0 ≤ 3 from fun z hz => by
        have hm : L.getD z X.zeroSt ∈ endsOf Pinc := HP9.out.mem_iff.1 (X.mem_getD L z _ hz)
        have := List.all_eq_true.1 lost1 _ hm
        simpa using this)
      clear ho hp hu EN2 hc9 hnL
      go_wp2_with fail
      go_loopg [12, 13, 89] nL (fun d v12 v13 v89 wr => ∃ (j lo hi : Nat), v89 = .int .i64 (j : Int) ∧ v12 = .int .i64 (lo : Int) ∧ v13 = .int .i64 (hi : Int) ∧ j ≤ nL ∧ Hid (j + d = nL) ∧ 1 ≤ lo ∧ lo ≤ 3 ∧ hi ≤ 3 ∧ Hid (∀ z, z < j → lo ≤ (L.getD z X.zeroSt).c.getD 0 0 ∧ (L.getD z X.zeroSt).c.getD 0 0 ≤ hi) ∧ Hid (Upd [] w9 wr))
      case atStart => exact ⟨0, 3, 0, rfl, rfl, rfl, by omega, hid (by omega), by omega, by omega, by omega, hid (fun z hz => by omega), Upd.refl _ _⟩
      case round =>
        obtain ⟨j, lo, hi', rfl, rfl, rfl, hjn, Hj, hlo1, hlo3, hhi3, HZ, HUL⟩ := hrel
        by_cases hj : j < nL
        · have hj' : (j : Int) < (nL : Int) := by omega
          have hjl : j < L.length := by rw [← HNL.out]; exact hj
          obtain ⟨al, kl, el, -, -, hcl⟩ := own_view (own_new HO9.out HUL.out)
          cases el
          obtain ⟨gl, rfl, -⟩ := hcl (j * 12 + 0) _ (scells_get L j 0 hjl (by decide))
          have gt : ∀ p v, p < 12 → (stl L[j])[p]? = some v → wr.cell? ⟨gl, j * 12 + p, none⟩ = some v := fun p v hp hv => by
            obtain ⟨g', e', -, h, -⟩ := hcl (j * 12 + p) v ((scells_get L j p hjl hp).trans hv)
            cases e'; exact h
          obtain ⟨x0, x1, x2, x3, x4, x5, x6, x7, x8, x9, x10, x11, hst⟩ := st_open L[j]
          have c0 : wr.cell? ⟨gl, j * 12, none⟩ = some (.int .i64 (x0 : Int)) := gt 0 _ (by decide) (by rw [hst]; rfl)
          have c1 : wr.cell? ⟨gl, j * 12 + 1, none⟩ = some (.int .i64 (x1 : Int)) := gt 1 _ (by decide) (by rw [hst]; rfl)
          have c2 : wr.cell? ⟨gl, j * 12 + 2, none⟩ = some (.int .i64 (x2 : Int)) := gt 2 _ (by decide) (by rw [hst]; rfl)
          have c3 : wr.cell? ⟨gl, j * 12 + 3, none⟩ = some (.int .i64 (x3 : Int)) := gt 3 _ (by decide) (by rw [hst]; rfl)
          have c4 : wr.cell? ⟨gl, j * 12 + 4, none⟩ = some (.int .i64 (x4 : Int)) := gt 4 _ (by decide) (by rw [hst]; rfl)
          have c5 : wr.cell? ⟨gl, j * 12 + 5, none⟩ = some (.int .i64 (x5 : Int)) := gt 5 _ (by decide) (by rw [hst]; rfl)
          have c6 : wr.cell? ⟨gl, j * 12 + 6, none⟩ = some (.int .i64 (x6 : Int)) := gt 6 _ (by decide) (by rw [hst]; rfl)
          have c7 : wr.cell? ⟨gl, j * 12 + 7, none⟩ = some (.int .i64 (x7 : Int)) := gt 7 _ (by decide) (by rw [hst]; rfl)
          have c8 : wr.cell? ⟨gl, j * 12 + 8, none⟩ = some (.int .i64 (x8 : Int)) := gt 8 _ (by decide) (by rw [hst]; rfl)
          have c9 : wr.cell? ⟨gl, j * 12 + 9, none⟩ = some (.int .i64 (x9 : Int)) := gt 9 _ (by decide) (by rw [hst]; rfl)
          have c10 : wr.cell? ⟨gl, j * 12 + 10, none⟩ = some (.int .i64 (x10 : Int)) := gt 10 _ (by decide) (by rw [hst]; rfl)
          have c11 : wr.cell? ⟨gl, j * 12 + 11, none⟩ = some (.int .i64 (x11 : Int)) := gt 11 _ (by decide) (by rw [hst]; rfl)
          have hx0 : (L.getD j X.zeroSt).c.getD 0 0 = x0 := by
            have e : L.getD j X.zeroSt = L[j] := by rw [List.getD_eq_getElem?_getD, List.getElem?_eq_getElem hjl]; rfl
            rw [e]
            have := congrArg (fun l : List Value => l.getD 0 undef) hst
            simp [stl, nv] at this
            have h2 : ((L[j].c[0]?.getD 0 : Nat) : Int) = ((x0 : Nat) : Int) := by simpa using this
            have h3 : L[j].c.getD 0 0 = L[j].c[0]?.getD 0 := List.getD_eq_getElem?_getD ..
            rw [h3]; omega
          have hxb := HC9.out j hjl
          rw [hx0] at hxb
          have HX0 := hid hx0
          obtain ⟨mn, hmn⟩ : ∃ mn, mn = min lo x0 := ⟨_, rfl⟩
          obtain ⟨mx, hmx⟩ : ∃ mx, mx = max hi' x0 := ⟨_, rfl⟩
          have hmin := fun ats ty => min_nat ats ty .i64 .i64 (lo : Int) (x0 : Int) mn (by omega)
          have hmax := fun ats ty => max_nat ats ty .i64 .i64 (hi' : Int) (x0 : Int) mx (by omega)
          have HMN := hid (show mn ≤ lo ∧ mn ≤ x0 ∧ 1 ≤ mn ∧ mn ≤ 3 by omega)
          have HMX := hid (show hi' ≤ mx ∧ x0 ≤ mx ∧ mx ≤ 3 by omega)
          clear gt hcl hst hx0 hmn hmx
          go_upto_region 25 with (fail)
          obtain ⟨WA, hWA⟩ : ∃ WA, WA = wr.alloc (.cells #[.int .i64 (x0 : Int), .int .i64 (x1 : Int), .int .i64 (x2 : Int), .int .i64 (x3 : Int), .int .i64 (x4 : Int), .int .i64 (x5 : Int), .int .i64 (x6 : Int), .int .i64 (x7 : Int), .int .i64 (x8 : Int), .int .i64 (x9 : Int), .int .i64 (x10 : Int), .int .i64 (x11 : Int)] 35) := ⟨_, rfl⟩
          have hba : WA.heap[wr.heap.size]? = some (.cells #[.int .i64 (x0 : Int), .int .i64 (x1 : Int), .int .i64 (x2 : Int), .int .i64 (x3 : Int), .int .i64 (x4 : Int), .int .i64 (x5 : Int), .int .i64 (x6 : Int), .int .i64 (x7 : Int), .int .i64 (x8 : Int), .int .i64 (x9 : Int), .int .i64 (x10 : Int), .int .i64 (x11 : Int)] 35 (0, 0)) := by rw [hWA]; exact K.blk_new _ _
          have UA := hid (show Upd [] w9 WA by rw [hWA]; exact HUL.out.alloc _)
          have qa := (K.blk_cell hba 0).trans rfl
          rw [← hWA]
          clear hWA hba c0 c1 c2 c3 c4 c5 c6 c7 c8 c9 c10 c11
          go_quiet (fail)
          go_wp2_with fail
          go_roundg (nL - (j + 1))
          case measure => have := Hj.out; omega
          case rel =>
            refine ⟨j + 1, mn, mx, by go_num, rfl, rfl, by omega, by show _ = _; omega, HMN.out.2.2.1, HMN.out.2.2.2, HMX.out.2.2, hid (fun z hz => ?_), UA.out.drewN _⟩
            by_cases e : z = j
            · subst e; rw [HX0.out]; exact ⟨HMN.out.2.1, HMX.out.2.1⟩
            · have := HZ.out z (by omega)
              have h1 := HMN.out.1
              have h2 := HMX.out.1
              omega
        · obtain rfl : nL = j := by omega
          have hlo : lo = 1 := by
            obtain ⟨s, hs, h1⟩ := List.any_eq_true.1 lost2
            obtain ⟨z, hz, e⟩ := List.mem_iff_getElem.1 (HP9.out.mem_iff.2 hs)
            have h2 := (HZ.out z (by rw [HNL.out]; exact hz)).1
            rw [List.getD_eq_getElem?_getD (l := L), List.getElem?_eq_getElem hz, Option.getD_some, e, of_decide_eq_true h1] at h2
            omega
          have hhi : hi' = 3 := by
            obtain ⟨s, hs, h1⟩ := List.any_eq_true.1 lost3
            obtain ⟨z, hz, e⟩ := List.mem_iff_getElem.1 (HP9.out.mem_iff.2 hs)
            have h2 := (HZ.out z (by rw [HNL.out]; exact hz)).2
            rw [List.getD_eq_getElem?_getD (l := L), List.getElem?_eq_getElem hz, Option.getD_some, e, of_decide_eq_true h1] at h2
            omega
          subst hlo hhi
          have HUF := hid (U9.out.trans HUL.out (by simp))
          go_wp2_with fail
          go_ret
          exact ⟨rfl, HUF.out⟩
end Go.Proofs.Ytklacfdbpmkiiaa.Y
