/- The walk of cut.Most: the greatest whole cut below one. -/
import Derived.Test.YtcdladnbcamgjaaCw
namespace Go.Proofs.Ytcdladnbcamgjaa.Cm
open Go Go.RowKit Go.Proofs.Ytcdladnbcamgjaa.K Go.Proofs.Ytcdladnbcamgjaa.M Go.Proofs.Ytcdladnbcamgjaa.Ev Go.Proofs.Ytcdladnbcamgjaa.Ck Go.Proofs.Ytcdladnbcamgjaa.O Go.Proofs.Ytcdladnbcamgjaa.R Go.Proofs.Ytcdladnbcamgjaa.CL Go.Proofs.Ytcdladnbcamgjaa.CW Go.Proofs.Ytcdladnbcamgjaa.Th Go.Proofs.Ytcdladnbcamgjaa.Cu Go.Proofs.Ytcdladnbcamgjaa.CuT Go.Proofs.Ytcdladnbcamgjaa.Ah Go.Proofs.Ytcdladnbcamgjaa.Cv Go.Proofs.Ytcdladnbcamgjaa.Cw

/-- What was sent in the cut so far. -/
def Sent (l : List Ev) (o : List Int) (i : Nat) (f : Nat → Bool) : Prop := ∀ m, f m = true ↔ ∃ s, s < i ∧ (ev l s).kind = 2 ∧ (ev l s).msg = m ∧ inC l o s = true
/-- All that was taken in the cut, among the first i, was sent in it. -/
def Upto (l : List Ev) (o : List Int) (i : Nat) : Prop := ∀ s k, s < k → k < i → (ev l s).kind = 2 → (ev l k).kind = 3 → (ev l s).msg = (ev l k).msg → inC l o k = true → inC l o s = true
/-- Where a pass over the cut o stands: what is left of it. -/
structure Pass (l : List Ev) (o : List Int) (i : Nat) (oo : List Int) : Prop where
  len : oo.length = 8
  low : ∀ p, p < 8 → 0 ≤ oo.getD p 0
  le : Le oo o
  most : ∀ d, VCut l d → Whole l d → Le d o → Le d oo
  prog : Upto l o i ∨ oo.sum < o.sum

theorem Sent.nil (l : List Ev) (o : List Int) : Sent l o 0 (fun _ => false) := fun _ => ⟨fun h => (by cases h), fun ⟨s, h, _⟩ => absurd h (Nat.not_lt_zero s)⟩
theorem Sent.keep {l : List Ev} {o : List Int} {i : Nat} {f : Nat → Bool} (h : Sent l o i f) (hk : (ev l i).kind ≠ 2) : Sent l o (i + 1) f := fun m => by
  rw [h m]
  constructor
  · rintro ⟨s, h1, h⟩; exact ⟨s, by omega, h⟩
  · rintro ⟨s, h1, h2, h3⟩
    refine ⟨s, ?_, h2, h3⟩
    by_cases e : s = i
    · subst e; exact absurd h2 hk
    · omega
theorem Sent.put {l : List Ev} {o : List Int} {i : Nat} {f : Nat → Bool} (hv : Valid l) (hi : i < l.length) (h : Sent l o i f) (hk : (ev l i).kind = 2) {t : Bool} (ht : t = inC l o i) : Sent l o (i + 1) (fun m => if m = (ev l i).msg then t else f m) := fun m => by
  show (if m = (ev l i).msg then t else f m) = true ↔ _
  by_cases e : m = (ev l i).msg
  · rw [if_pos e]
    constructor
    · intro h; exact ⟨i, by omega, hk, e.symm, by rw [← ht]; exact h⟩
    · rintro ⟨s, h1, h2, h3, h4⟩
      have : s = i := send_one hv (a := s) (b := i) (by omega) hi h2 hk (h3.trans e)
      subst this
      rw [ht]; exact h4
  · rw [if_neg e, h m]
    constructor
    · rintro ⟨s, h1, h⟩; exact ⟨s, by omega, h⟩
    · rintro ⟨s, h1, h2, h3, h4⟩
      refine ⟨s, ?_, h2, h3, h4⟩
      by_cases e2 : s = i
      · subst e2; exact absurd h3.symm e
      · omega
theorem Pass.start {l : List Ev} {o : List Int} (h : VCut l o) : Pass l o 0 o := ⟨h.len, h.low, Le.refl o, fun _ _ _ h => h, .inl (fun s k _ h => by omega)⟩
theorem Pass.skip {l : List Ev} {o oo : List Int} {i : Nat} (h : Pass l o i oo) (hk : (ev l i).kind ≠ 3 ∨ inC l o i = false) : Pass l o (i + 1) oo := ⟨h.len, h.low, h.le, h.most, by
  rcases h.prog with hp | hp
  · left; intro s k h1 h2 h3 h4 h5 h6
    by_cases e : k = i
    · subst e
      rcases hk with hk | hk
      · exact absurd h4 hk
      · rw [hk] at h6; cases h6
    · exact hp s k h1 (by omega) h3 h4 h5 h6
  · exact .inr hp⟩
theorem Pass.fine {l : List Ev} {o oo : List Int} {i : Nat} {f : Nat → Bool} (hv : Valid l) (hi : i < l.length) (h : Pass l o i oo) (hs : Sent l o i f) (hf : f (ev l i).msg = true) : Pass l o (i + 1) oo := ⟨h.len, h.low, h.le, h.most, by
  rcases h.prog with hp | hp
  · left; intro s k h1 h2 h3 h4 h5 h6
    by_cases e : k = i
    · subst e
      obtain ⟨s', g1, g2, g3, g4⟩ := (hs _).1 hf
      have := send_one hv (a := s) (b := s') (by omega) (by omega) h3 g2 (h5.trans g3.symm)
      rw [this]; exact g4
    · exact hp s k h1 (by omega) h3 h4 h5 h6
  · exact .inr hp⟩
theorem Pass.cut {l : List Ev} {o oo : List Int} {i : Nat} {f : Nat → Bool} (hv : Valid l) (hi : i < l.length) (ho : o.length = 8) (h : Pass l o i oo) (hs : Sent l o i f) (hk : (ev l i).kind = 3) (hin : inC l o i = true) (hf : f (ev l i).msg = false) :
    Pass l o (i + 1) (oo.set (ev l i).place (min (oo.getD (ev l i).place 0) (((cnt l (ev l i).place (i + 1) : Nat) : Int) - 1))) := by
  have hp := pl8 hv hi
  have hc := cnt_here l i
  have hg := fun p => getD_set oo (ev l i).place (min (oo.getD (ev l i).place 0) (((cnt l (ev l i).place (i + 1) : Nat) : Int) - 1)) p (by rw [h.len]; exact hp)
  have hlt := (inC_iff l o i).1 hin
  have hle : Le (oo.set (ev l i).place (min (oo.getD (ev l i).place 0) (((cnt l (ev l i).place (i + 1) : Nat) : Int) - 1))) o := fun p h8 => by
    rw [hg p]; have := h.le p h8
    split
    · rename_i e; subst e; omega
    · exact this
  refine ⟨by rw [List.length_set]; exact h.len, fun p h8 => ?_, hle, fun d hd hw hdo p h8 => ?_, .inr (sum_lt8 (by rw [List.length_set]; exact h.len) ho hle hp ?_)⟩
  · rw [hg p]; have := h.low p h8
    split
    · rename_i e; subst e; omega
    · exact this
  · rw [hg p]
    have := h.most d hd hw hdo p h8
    split
    · rename_i e; subst e
      have hno : ¬ ((cnt l (ev l i).place (i + 1) : Nat) : Int) ≤ d.getD (ev l i).place 0 := fun hx => by
        have hdi := (inC_iff l d i).2 hx
        have t1 := (hv i hi).took1 hk
        obtain ⟨s, h1, h2, h3⟩ := (mem_sends _ _).1 t1
        have h1' : s < i := by simp at h1; omega
        have es : (l.take i).getD s noEv = ev l s := by simp [ev, List.getD_eq_getElem?_getD, h1']
        rw [es] at h2 h3
        have := inC_mono hv hdo (show s < l.length by omega) (hw s i h1' hi h2 hk h3 hdi)
        have := (hs (ev l i).msg).2 ⟨s, h1', h2, h3, this⟩
        rw [hf] at this; cases this
      omega
    · exact this
  · rw [hg, if_pos rfl]; omega

section
variable (a : Option Addr) (cap : Nat) (l : List Ev) (g cc : Nat) (c : List Int) (w : World) (hx : EvRow w a l) (hlc : l.length ≤ cap) (hcp : cap ≤ 9223372036854775807) (hn : l.length ≤ 200) (hv : Valid l) (hc : IntRow w (some ⟨g, 0, none⟩) c) (hvc : VCut l c)
include hx hlc hcp hn hv hc hvc
set_option maxHeartbeats 8000000 in
set_option maxRecDepth 100000 in
theorem most_call : Calls Try.prog 36 #[.slice a l.length cap, .slice (some ⟨g, 0, none⟩) 8 cc] w fun e w' => ∃ g' c' m, e = .returned (.tuple #[.slice (some ⟨g', 0, none⟩) 8 c', .int .i64 0]) ∧ IntRow w' (some ⟨g', 0, none⟩) m ∧ IsMost l c m ∧ Upd [] w w' := by
  have c1 := check1 a cap l g cc c w hx hlc hcp hn hv hc hvc
  have c2 := fun (w1 : World) (u : Upd [] w w1) => cloneC g cc c w1 (hc.upd u) hvc.len
  have c3 := fun (w1 : World) (u : Upd [] w w1) (g4 c4 : Nat) (o : List Int) (ho : IntRow w1 (some ⟨g4, 0, none⟩) o) (hol : o.length = 8) => whole_any a cap l g4 c4 o w1 (hx.upd u) hn hv ho hol
  have c4 := fun (w1 : World) (u : Upd [] w w1) (g4 c4 : Nat) (o : List Int) (ho : IntRow w1 (some ⟨g4, 0, none⟩) o) (hol : o.length = 8) => inside_any a cap l g4 c4 o w1 (hx.upd u) hn hv ho hol
  obtain ⟨n, hnl⟩ : ∃ n, n = l.length := ⟨_, rfl⟩
  rw [← hnl] at c1 c3 c4 hn ⊢
  have HN := hid hnl
  have HX := hid hx
  have HV := hid hv
  have HVC := hid hvc
  have C2 := hid c2
  have C3 := hid c3
  have C4 := hid c4
  clear hnl hx hv hc hvc hlc hcp c2 c3 c4
  have hmm := @run_makeMap Try.prog
  go_enter Try.func36, Try.ntmps36
  go_wp2_with fail
  refine c1.mono ?_
  rintro e w1 ⟨rfl, hu⟩
  have U1 := hid hu
  clear c1 hu
  go_wp2_with fail
  refine (C2.out w1 U1.out).mono ?_
  rintro e w2 ⟨G, c4, rfl, hge, ha, hu⟩
  have U2 := hid (U1.out.trans hu (by simp))
  have A2 := hid ha
  have GE := hid (show w.heap.size ≤ G by have := U1.out.size; omega)
  clear C2 hu hge ha U1
  go_wp2_with fail
  go_loopg [8] c.sum.toNat (fun d v8 wr => ∃ (o : List Int), Hid (o.sum.toNat = d) ∧ Hid (Arr wr G 3 8 (fun z => .int .i64 (o.getD z 0))) ∧ Hid (VCut l o) ∧ Hid (Le o c) ∧ Hid (∀ d, VCut l d → Whole l d → Le d c → Le d o) ∧ Hid (Upd [] w wr))
  case atStart => exact ⟨c, rfl, A2.out, HVC.out, Le.refl c, hid (fun _ _ _ h => h), U2.out⟩
  case round =>
    clear A2 U2
    obtain ⟨o, Ho, Ha, Hvo, Hle, Hmost, Hu⟩ := hrel
    have hrow := hid (Arr.row Ha.out Hvo.out.len)
    go_wp2_with fail
    refine (C3.out wr Hu.out G c4 o hrow.out Hvo.out.len).mono ?_
    rintro e w3 ⟨B, rfl, hB, hu⟩
    have V3 := hid hu
    clear hu
    cases B with
    | true =>
      go_wp2_with fail
      go_ret2
      exact ⟨G, c4, o, rfl, hrow.out.upd V3.out, ⟨Hvo.out, hB.out.1 (by simp), Hle.out, Hmost.out⟩, Hu.out.trans V3.out (by simp)⟩
    | false =>
      have hnw := hid (show ¬ Whole l o from fun h => by have := hB.out.2 h; cases this)
      clear hB
      go_wp2_with fail
      refine (C4.out w3 (Hu.out.trans V3.out (by simp)) G c4 o (hrow.out.upd V3.out) Hvo.out.len).mono ?_
      rintro e w4 ⟨D, rfl, hDw, hd, hu⟩
      have U4 := hid ((Hu.out.trans V3.out (by simp)).trans hu (by simp))
      have G4 := hid ((Ha.out.upd V3.out (by simp)).upd hu (by simp))
      obtain ⟨Q, hQ⟩ : ∃ Q, Q = w4.heap.size := ⟨_, rfl⟩
      obtain ⟨A, hA⟩ : ∃ A, A = w4.heap.size + 1 := ⟨_, rfl⟩
      obtain ⟨W0, hW0⟩ : ∃ W0, W0 = (w4.alloc (.map #[] 0)).alloc (.cells #[.int .i64 0, .int .i64 0, .int .i64 0, .int .i64 0, .int .i64 0, .int .i64 0, .int .i64 0, .int .i64 0] 77) := ⟨_, rfl⟩
      have AA : Hid (Arr W0 A 77 8 (fun p => .int .i64 ((cnt l p 0 : Nat) : Int))) := by
        rw [hW0, hA]
        have := arr_new (w4.alloc (.map #[] 0)) [.int .i64 0, .int .i64 0, .int .i64 0, .int .i64 0, .int .i64 0, .int .i64 0, .int .i64 0, .int .i64 0] 77 8 (fun p => .int .i64 ((cnt l p 0 : Nat) : Int)) rfl (fun z hz => by
          match z, hz with
          | 0, _ => rfl
          | 1, _ => rfl
          | 2, _ => rfl
          | 3, _ => rfl
          | 4, _ => rfl
          | 5, _ => rfl
          | 6, _ => rfl
          | 7, _ => rfl)
        rw [World.size_alloc] at this; exact this
      have MM : Hid (IsMap W0 Q []) := by rw [hW0, hQ]; exact (IsMap.made w4).alloc _
      have DD : Hid (Arr W0 D 4 n (fun k => .bool (inC l o k))) := by rw [hW0]; exact (hd.alloc _).alloc _
      have GG : Hid (Arr W0 G 3 8 (fun z => .int .i64 (o.getD z 0))) := by rw [hW0]; exact (G4.out.alloc _).alloc _
      have UU : Hid (Upd [] w W0) := by rw [hW0]; exact (U4.out.alloc _).alloc _
      have QW := hid (show w.heap.size ≤ Q by rw [hQ]; exact U4.out.size)
      have AW := hid (show w.heap.size ≤ A by rw [hA]; have := U4.out.size; omega)
      have nGA := hid (GG.out.ne AA.out (by decide))
      have nDA := hid (DD.out.ne AA.out (by decide))
      have nGD := hid (GG.out.ne DD.out (by decide))
      clear hd hu G4 U4 V3 Ha Hu hDw hrow
      go_wp2_with fail
      rw [← hA, ← hQ, ← hW0]
      clear hA hQ hW0
      go_loopg [32] n (fun d v32 wr => ∃ (i : Nat) (mm : Mp) (f : Nat → Bool) (oo : List Int), v32 = .int .i64 (i : Int) ∧ i ≤ n ∧ Hid (i + d = n) ∧ Hid (IsMap wr Q mm) ∧ Hid (∀ m : Nat, (mlook mm (m : Int)).getD (.bool false) = .bool (f m)) ∧
        Hid (Sent l o i f) ∧ Hid (Pass l o i oo) ∧ Hid (Arr wr A 77 8 (fun p => .int .i64 ((cnt l p i : Nat) : Int))) ∧ Hid (Arr wr G 3 8 (fun z => .int .i64 (oo.getD z 0))) ∧ Hid (Arr wr D 4 n (fun k => .bool (inC l o k))) ∧ Hid (Upd [] w wr))
      case atStart => exact ⟨0, [], _, o, rfl, by omega, by show _ = _; omega, MM.out, hid (fun m => rfl), Sent.nil l o, Pass.start Hvo.out, AA.out, GG.out, DD.out, UU.out⟩
      case round =>
        clear AA MM DD GG UU hmm
        obtain ⟨i, mm, f, oo, rfl, hin, Hi, HM, HF, HS, HP, HA, HG, HD, Hu⟩ := hrel
        by_cases hi : i < n
        · have hil := hid (show i < l.length by rw [← HN.out]; exact hi)
          obtain ⟨g0, rfl, c0, c1, c2⟩ := HX.out.upd Hu.out i hil.out
          have hp8 := (HV.out i hil.out).p8
          obtain ⟨⟨pl, kd, ms⟩, hev⟩ : ∃ ev, ev = l.getD i noEv := ⟨_, rfl⟩
          rw [← hev] at c0 c1 c2 hp8
          simp only at c0 c1 c2 hp8
          have HE : Hid (ev l i = ⟨pl, kd, ms⟩) := hev.symm
          clear hev
          obtain ⟨x, hx⟩ : ∃ x, x = cnt l pl i := ⟨_, rfl⟩
          have hxl : x ≤ 200 := by have := cnt_le l pl i; omega
          have q : ∀ o, (wr.alloc o).cell? ⟨A, pl, none⟩ = some (.int .i64 (x : Int)) := fun o => by rw [hx]; exact (HA.out.alloc o).cell hp8
          have qf : ∀ o, (wr.alloc o).frozen? ⟨A, pl, none⟩ = false := fun o => (HA.out.alloc o).fro pl
          have hAl := HA.out.lt
          have HXX := hid hx
          clear hx
          go_upto_region 13 with (fail)
          obtain ⟨W1, hW1⟩ : ∃ W1, W1 = (wr.setCell ⟨A, pl, none⟩ (.int .i64 ((x : Int) + 1))).alloc (.cells #[.int .i64 (pl : Int), .int .i64 (kd : Int), .int .i64 (ms : Int)] 31) := ⟨_, rfl⟩
          obtain ⟨E, hE⟩ : ∃ E, E = wr.heap.size := ⟨_, rfl⟩
          have esz : (wr.setCell ⟨A, pl, none⟩ (.int .i64 ((x : Int) + 1))).heap.size = E := by rw [hE]; simp [World.setCell]
          have E1 : Hid (W1.heap[E]? = some (.cells #[.int .i64 (pl : Int), .int .i64 (kd : Int), .int .i64 (ms : Int)] 31 (0, 0))) := by rw [hW1, ← esz]; exact blk_new _ _
          have A1 : Hid (Arr W1 A 77 8 (fun p => .int .i64 ((cnt l p (i + 1) : Nat) : Int))) := by
            rw [hW1]
            refine ((HA.out.set pl _).alloc _).congr (fun z hz => ?_)
            have ep : (ev l i).place = pl := by rw [HE.out]
            simp only [cnt, ep]
            by_cases e : z = pl
            · subst e; rw [if_pos rfl, if_pos rfl, ← HXX.out]; go_num
            · rw [if_neg e, if_neg (fun q => e q.symm)]; rfl
          have M1 : Hid (IsMap W1 Q mm) := by
            rw [hW1]; refine IsMap.alloc (HM.out.far (p := ⟨A, pl, none⟩) ?_ _) _
            obtain ⟨cs, hb, _⟩ := HA.out
            exact HM.out.ne_cells hb
          have G1 : Hid (Arr W1 G 3 8 (fun z => .int .i64 (oo.getD z 0))) := by rw [hW1]; exact (HG.out.far nGA.out _).alloc _
          have D1 : Hid (Arr W1 D 4 n (fun k => .bool (inC l o k))) := by rw [hW1]; exact (HD.out.far nDA.out _).alloc _
          have V1 : Hid (Upd [] w W1) := by rw [hW1]; exact (Hu.out.setCell (.inr AW.out) _).alloc _
          rw [← hW1, ← hE]
          clear hW1 hE esz HM HA HG HD Hu q qf hAl c0 c1 c2
          have e0 : W1.cell? ⟨E, 0, none⟩ = some (.int .i64 (pl : Int)) := (blk_cell E1.out 0).trans rfl
          have e1 : W1.cell? ⟨E, 1, none⟩ = some (.int .i64 (kd : Int)) := (blk_cell E1.out 1).trans rfl
          have e2 : W1.cell? ⟨E, 2, none⟩ = some (.int .i64 (ms : Int)) := (blk_cell E1.out 2).trans rfl
          obtain ⟨t, ht⟩ : ∃ t, t = inC l o i := ⟨_, rfl⟩
          have dt := D1.out.val hi (v := .bool t) (by rw [ht])
          have HT := hid ht
          clear ht
          have hi' : (i : Int) < (n : Int) := by omega
          have hp8' : (pl : Int) < 8 := by omega
          by_cases kd2 : kd = 2
          · have b2 : ((kd : Int) == 2) = true := by rw [beq_iff_eq]; omega
            have b3 : ((kd : Int) == 3) = false := by rw [beq_eq_false_iff_ne]; omega
            have KD2 := hid kd2
            clear kd2
            go_wp2_with fail
            refine region_tail 7 (by kernel_rfl) (by kernel_rfl) ?_
            simp only [List.take_succ_cons, List.take_zero, List.drop_succ_cons, List.drop_zero]
            repeat still_step
            refine wpStill_nil ?_
            go_wp2_with (first | (at_mapUpdate; refine wpList_put rfl _ _ _ 86 rfl 3 4 Try.underlying86 Try.underlying3 Q mm rfl (IsMap.drew M1.out) (ms : Int) (.bool t) rfl rfl ?_; intro w6 hm6 hu6; have M6 := hid hm6; have U6 : Hid (Upd [Q] W1 w6) := (Upd.refl [Q] W1).drew.trans hu6 (fun _ h => .inl h); have q1 : w6.cell? ⟨E, 1, none⟩ = some (.int .i64 (kd : Int)) := (blk_cell (U6.out.blk E1.out (by simp; intro e; exact M1.out.ne_cells E1.out e.symm)) 1).trans rfl; clear hm6 hu6))
            go_roundg (n - (i + 1))
            case measure => have := Hi.out; omega
            case rel =>
              have hk : (ev l i).kind = 2 := by rw [HE.out]; exact KD2.out
              have hms : (ev l i).msg = ms := by rw [HE.out]
              have sp := Sent.put HV.out hil.out HS.out hk HT.out
              refine ⟨i + 1, _, _, oo, by go_num, by omega, by show _ = _; omega, M6.out, hid (fun m => ?_), sp, HP.out.skip (.inl (by omega)), A1.out.upd U6.out ?_, G1.out.upd U6.out ?_, D1.out.upd U6.out ?_, V1.out.trans U6.out (fun z hz => .inr (by simp at hz; rw [hz]; exact QW.out))⟩
              · show _ = Value.bool (if m = (ev l i).msg then t else f m)
                rw [mlook_put, hms]
                by_cases e : m = ms
                · subst e; simp
                · have : ¬ ((ms : Int) = (m : Int)) := by omega
                  rw [if_neg this, if_neg e]; exact HF.out m
              · obtain ⟨cs, hb, _⟩ := A1.out
                simp; intro e; exact M1.out.ne_cells hb e.symm
              · obtain ⟨cs, hb, _⟩ := G1.out
                simp; intro e; exact M1.out.ne_cells hb e.symm
              · obtain ⟨cs, hb, _⟩ := D1.out
                simp; intro e; exact M1.out.ne_cells hb e.symm
          have b2 : ((kd : Int) == 2) = false := by rw [beq_eq_false_iff_ne]; omega
          have SK : Hid (Sent l o (i + 1) f) := HS.out.keep (by rw [HE.out]; exact kd2)
          have KD2 := hid kd2
          clear kd2
          by_cases kd3 : kd = 3
          · have b3 : ((kd : Int) == 3) = true := by rw [beq_iff_eq]; omega
            have KD3 := hid kd3
            clear kd3
            obtain ⟨fm, hfm⟩ : ∃ fm, fm = f ms := ⟨_, rfl⟩
            have L1 : (Instr.lookup 86 (.map (some Q)) (.int .i64 (ms : Int)) false).run Try.prog W1 = .ok (.bool fm) W1 := by
              rw [hfm, ← HF.out ms]; exact (run_look (P := Try.prog) M1.out Try.underlying86 Try.underlying3 (zeroB _) (ms : Int)).1
            have HFM := hid hfm
            clear hfm
            cases t with
            | false =>
              go_wp2_with fail
              go_roundg (n - (i + 1))
              case measure => have := Hi.out; omega
              case rel => exact ⟨i + 1, mm, f, oo, by go_num, by omega, by show _ = _; omega, M1.out, HF.out, SK.out, HP.out.skip (.inr HT.out.symm), A1.out, G1.out, D1.out, V1.out⟩
            | true =>
              cases fm with
              | true =>
                go_wp2_with fail
                go_roundg (n - (i + 1))
                case measure => have := Hi.out; omega
                case rel => exact ⟨i + 1, mm, f, oo, by go_num, by omega, by show _ = _; omega, M1.out, HF.out, SK.out, HP.out.fine HV.out hil.out HS.out (by rw [HE.out]; exact HFM.out.symm), A1.out, G1.out, D1.out, V1.out⟩
              | false =>
                obtain ⟨y, hy⟩ : ∃ y, y = oo.getD pl 0 := ⟨_, rfl⟩
                obtain ⟨x1, hx1⟩ : ∃ x1, x1 = cnt l pl (i + 1) := ⟨_, rfl⟩
                have q1 := G1.out.val hp8 (v := .int .i64 y) (by rw [hy])
                have q2 := G1.out.fro pl
                have q3 := A1.out.val hp8 (v := .int .i64 (x1 : Int)) (by rw [hx1])
                have hx1l : x1 ≤ 201 := by have := cnt_le l pl (i + 1); omega
                obtain ⟨mn, hmn⟩ : ∃ mn, mn = min y ((x1 : Int) - 1) := ⟨_, rfl⟩
                have hmin : ∀ ats ty, Builtin.min_ ats ty #[.int .i64 y, .int .i64 ((x1 : Int) - 1)] = pure (.int .i64 mn) := fun ats ty => by
                  have e : (if (x1 : Int) - 1 < y then (x1 : Int) - 1 else y) = mn := by rw [hmn]; split <;> omega
                  simp only [Builtin.min_, List.foldlM_cons, List.foldlM_nil, Builtin.min2, e]; rfl
                have HY := hid hy
                have HX1 := hid hx1
                have HMN := hid hmn
                clear hy hx1 hmn
                go_wp2_with fail
                refine region_tail 15 (by kernel_rfl) (by kernel_rfl) ?_
                simp only [List.take_succ_cons, List.take_zero, List.drop_succ_cons, List.drop_zero]
                repeat still_step
                refine wpStill_nil ?_
                go_wp2_with fail
                go_roundg (n - (i + 1))
                case measure => have := Hi.out; omega
                case rel =>
                  have hpc := HP.out.cut HV.out hil.out Hvo.out.len HS.out (by rw [HE.out]; exact KD3.out) HT.out.symm (by rw [HE.out]; exact HFM.out.symm)
                  rw [show (ev l i).place = pl by rw [HE.out]] at hpc
                  rw [← HY.out, ← HX1.out, ← HMN.out] at hpc
                  refine ⟨i + 1, mm, f, _, by go_num, by omega, by show _ = _; omega, M1.out.far (p := ⟨G, pl, none⟩) ?_ _, HF.out, SK.out, hpc, A1.out.far (Ne.symm nGA.out) _, (G1.out.set pl _).congr (fun z hz => ?_), D1.out.far (Ne.symm nGD.out) _, (V1.out.setCell (.inr GE.out) _).drew⟩
                  · obtain ⟨cs, hb, _⟩ := G1.out
                    exact M1.out.ne_cells hb
                  · rw [getD_set _ _ _ _ (by rw [HP.out.len]; exact hp8)]
                    by_cases e : z = pl
                    · subst e; rw [if_pos rfl, if_pos rfl, HMN.out]
                    · rw [if_neg e, if_neg (fun q => e q.symm)]
          · have b3 : ((kd : Int) == 3) = false := by rw [beq_eq_false_iff_ne]; omega
            have KD3 := hid kd3
            clear kd3
            go_wp2_with fail
            go_roundg (n - (i + 1))
            case measure => have := Hi.out; omega
            case rel => exact ⟨i + 1, mm, f, oo, by go_num, by omega, by show _ = _; omega, M1.out, HF.out, SK.out, HP.out.skip (.inl (by rw [HE.out]; exact KD3.out)), A1.out, G1.out, D1.out, V1.out⟩
        · obtain rfl : i = n := by omega
          have hlt : oo.sum < o.sum := by
            rcases HP.out.prog with h | h
            · exact absurd (show Whole l o by rw [HN.out] at h; exact h) hnw.out
            · exact h
          have hvo : VCut l oo := ⟨HP.out.len, HP.out.low, fun p hp => Int.le_trans (HP.out.le p hp) (Hvo.out.high p hp)⟩
          have h0 := sum_low8 hvo
          have HVO := hid hvo
          have HLT := hid hlt
          have H0 := hid h0
          clear hlt hvo h0
          go_wp2_with fail
          go_roundg oo.sum.toNat
          case measure => have := Ho.out; have := HLT.out; have := H0.out; omega
          case rel => exact ⟨oo, rfl, HG.out, HVO.out, HP.out.le.trans Hle.out, hid (fun d h1 h2 h3 => HP.out.most d h1 h2 (Hmost.out d h1 h2 h3)), Hu.out⟩
end
end Go.Proofs.Ytcdladnbcamgjaa.Cm
