/- The walk of clock.Clocks: what clocks the events of a history have. -/
import Derived.Test.YtcdladnbcamgjaaHi
import Derived.Test.YtcdladnbcamgjaaCL
namespace Go.Proofs.Ytcdladnbcamgjaa.CW
open Go Go.RowKit Go.Proofs.Ytcdladnbcamgjaa.K Go.Proofs.Ytcdladnbcamgjaa.M Go.Proofs.Ytcdladnbcamgjaa.Ev Go.Proofs.Ytcdladnbcamgjaa.Ck Go.Proofs.Ytcdladnbcamgjaa.O Go.Proofs.Ytcdladnbcamgjaa.CL

/-! Plain -/
structure St where
  now : Nat → List Int
  way : Nat → List Int
def zero8 : List Int := List.replicate 8 0
def St.start : St := ⟨fun _ => zero8, fun _ => []⟩
def St.pre (s : St) (e : Ev) : List Int := if e.kind = 3 then joinL (s.now e.place) (s.way e.msg) else s.now e.place
def St.clk (s : St) (e : Ev) : List Int := (s.pre e).set e.place ((s.pre e).getD e.place 0 + 1)
def St.step (s : St) (e : Ev) : St := ⟨fun p => if p = e.place then s.clk e else s.now p, fun m => if e.kind = 2 ∧ m = e.msg then s.clk e else s.way m⟩
def stOf (l : List Ev) : St := l.foldl St.step St.start
theorem stOf_snoc (l : List Ev) (e : Ev) : stOf (l ++ [e]) = (stOf l).step e := by simp [stOf]
def clockAt (l : List Ev) (i : Nat) : List Int := (stOf (l.take i)).clk (l.getD i noEv)

structure Fine (n : Nat) (xs : List Int) : Prop where
  len : xs.length = 8
  low : ∀ i, 0 ≤ xs.getD i 0
  high : ∀ i, xs.getD i 0 ≤ n
theorem Fine.mono {n m : Nat} {xs : List Int} (h : Fine n xs) (hm : n ≤ m) : Fine m xs := ⟨h.len, h.low, fun i => by have := h.high i; omega⟩
theorem zero_get (i : Nat) : zero8.getD i 0 = 0 := by
  by_cases h : i < 8 <;> simp only [zero8, List.getD_eq_getElem?_getD, List.getElem?_replicate, h, if_true, if_false] <;> rfl
theorem fine_zero : Fine 0 zero8 := ⟨rfl, fun i => by rw [zero_get]; omega, fun i => by rw [zero_get]; omega⟩
theorem getD_join (a b : List Int) (i : Nat) (ha : a.length = 8) (hb : b.length = 8) : (joinL a b).getD i 0 = max (a.getD i 0) (b.getD i 0) := by
  by_cases h : i < 8
  · exact atL_join a b i (by omega)
  · have e1 := atL_out (joinL a b) i (by rw [joinL_length]; omega)
    have e2 := atL_out a i (by omega)
    have e3 := atL_out b i (by omega)
    simp only [atL] at e1 e2 e3
    omega
theorem fine_join {n : Nat} {a b : List Int} (ha : Fine n a) (hb : Fine n b) : Fine n (joinL a b) :=
  ⟨by rw [joinL_length, ha.len, hb.len]; rfl, fun i => by rw [getD_join a b i ha.len hb.len]; have := ha.low i; omega, fun i => by rw [getD_join a b i ha.len hb.len]; have := ha.high i; have := hb.high i; omega⟩
theorem getD_set (xs : List Int) (p : Nat) (v : Int) (i : Nat) (hp : p < xs.length) : (xs.set p v).getD i 0 = if p = i then v else xs.getD i 0 := by
  simp only [List.getD_eq_getElem?_getD, List.getElem?_set]
  by_cases h : p = i
  · subst h; simp [hp]
  · simp [h]
theorem fine_set {n : Nat} {xs : List Int} (h : Fine n xs) (p : Nat) (hp : p < 8) : Fine (n + 1) (xs.set p (xs.getD p 0 + 1)) :=
  ⟨by rw [List.length_set]; exact h.len, fun i => by rw [getD_set _ _ _ _ (by rw [h.len]; exact hp)]; have := h.low p; have := h.low i; split <;> omega,
   fun i => by rw [getD_set _ _ _ _ (by rw [h.len]; exact hp)]; have := h.high p; have := h.high i; split <;> omega⟩

structure Sound (l : List Ev) : Prop where
  now : ∀ p, Fine l.length ((stOf l).now p)
  way : ∀ m, m ∈ sends l → Fine l.length ((stOf l).way m)
theorem pre_fine {l : List Ev} (h : Sound l) {e : Ev} (he : Fits l e) : Fine l.length ((stOf l).pre e) := by
  unfold St.pre
  split
  · rename_i hk; exact fine_join (h.now _) (h.way _ (he.took1 hk))
  · exact h.now _
theorem clk_fine {l : List Ev} (h : Sound l) {e : Ev} (he : Fits l e) : Fine (l.length + 1) ((stOf l).clk e) := fine_set (pre_fine h he) _ he.p8
theorem sound_snoc {l : List Ev} (h : Sound l) {e : Ev} (he : Fits l e) : Sound (l ++ [e]) where
  now := fun p => by
    rw [stOf_snoc, List.length_append]
    show Fine _ (if p = e.place then _ else _)
    split
    · exact clk_fine h he
    · exact (h.now p).mono (by simp)
  way := fun m hm => by
    rw [stOf_snoc, List.length_append]
    show Fine _ (if e.kind = 2 ∧ m = e.msg then _ else _)
    split
    · exact clk_fine h he
    · rename_i hne
      refine (h.way m ?_).mono (by simp)
      rw [sends_snoc] at hm
      by_cases h2 : e.kind = 2
      · rw [if_pos h2] at hm
        rcases List.mem_append.1 hm with hm | hm
        · exact hm
        · exact absurd ⟨h2, List.mem_singleton.1 hm⟩ hne
      · rw [if_neg h2] at hm; exact hm
theorem sound_nil : Sound [] := ⟨fun _ => fine_zero, fun m hm => by cases hm⟩
theorem sound_take {l : List Ev} (h : Valid l) : ∀ j, j ≤ l.length → Sound (l.take j)
  | 0, _ => by rw [List.take_zero]; exact sound_nil
  | j + 1, hj => by
    rw [take_succ l j (by omega)]
    exact sound_snoc (sound_take h j (by omega)) (h j (by omega))

/-! Walk -/
/-- A row of eight numbers that this call itself made. -/
def Row8 (w : World) (B : Nat) (v : Value) (xs : List Int) : Prop := w.ownsRow B 3 1 v 8 (ints xs)
theorem Row8.some {w : World} {B : Nat} {v : Value} {xs : List Int} (h : Row8 w B v xs) : ∃ g cap, v = .slice (Option.some ⟨g, 0, none⟩) 8 cap ∧ B ≤ g ∧ 8 ≤ cap ∧ cap ≤ 9223372036854775807 ∧ xs.length = 8 ∧ (∀ i, i < xs.length → w.cell? ⟨g, i, none⟩ = Option.some (.int .i64 (xs.getD i 0))) ∧ (∀ i, w.frozen? ⟨g, i, none⟩ = false) ∧ g < w.heap.size := by
  have hl : xs.length = 8 := by have := h.1; rw [ints_length] at this; omega
  obtain ⟨a, cap, rfl, h1, h2, h3⟩ := own_view h
  obtain ⟨g, rfl, hb, _, hf⟩ := h3 0 _ (ints_get xs 0 (by omega))
  refine ⟨g, cap, rfl, hb, h1, h2, hl, fun i hi => ?_, hf, own_lt h g rfl⟩
  obtain ⟨g', e, _, hc, _⟩ := h3 i _ (ints_get xs i hi)
  cases e; exact hc
/-- The clocks of the places. -/
def Nows (w : World) (B A : Nat) (t : TypeId) (k : Nat) (f : Nat → List Int) : Prop := ∃ cs : Array Value, w.heap[A]? = Option.some (.cells cs t (0, 0)) ∧ cs.size = 8 ∧ ∀ p, p < k → ∃ v, cs[p]? = Option.some v ∧ Row8 w B v (f p)

theorem Row8.mono {w : World} {B B' : Nat} {v : Value} {xs : List Int} (h : Row8 w B v xs) (hb : B' ≤ B) : Row8 w B' v xs := own_mono h hb
theorem clone8 {w : World} {B : Nat} {v : Value} {xs : List Int} (h : Row8 w B v xs) :
    Calls Try.prog 39 #[v] w fun e w' => ∃ g cap, e = .returned (.slice (Option.some ⟨g, 0, none⟩) 8 cap) ∧ Row8 w' w.heap.size (.slice (Option.some ⟨g, 0, none⟩) 8 cap) xs ∧ w.heap.size ≤ g ∧ Upd [] w w' := by
  obtain ⟨g, cap, rfl, _, _, _, hl, hc, _, _⟩ := h.some
  refine (Try.slices_Clone_int g 0 8 cap xs w (by omega) (by omega) (fun j hj => by rw [Nat.zero_add]; exact hc j hj)).mono ?_
  rintro e w' ⟨v', rfl, ho, _, hb⟩
  rw [List.take_of_length_le (by omega)] at ho
  have h8 : Row8 w' w.heap.size v' xs := ho
  obtain ⟨g', cap', rfl, hb', _⟩ := h8.some
  exact ⟨g', cap', rfl, h8, hb', Upd.of_below hb []⟩
theorem Row8.intRow {w : World} {B : Nat} {a : Option Addr} {c : Nat} {xs : List Int} (h : Row8 w B (.slice a 8 c) xs) : IntRow w a xs ∧ xs.length = 8 := by
  obtain ⟨g, cap, e, _, _, _, hl, hc, _, _⟩ := h.some
  cases e
  refine ⟨fun i hi => ⟨_, rfl, ?_⟩, hl⟩
  have e : (⟨g, 0, none⟩ : Addr).add i = ⟨g, i, none⟩ := by unfold Addr.add; split <;> simp_all
  rw [e]; exact hc i hi
theorem zero22 (w : World) : (zeroValue 22).run Try.prog w = .ok (.slice none 0 0) w := by kernel_rfl
theorem info22 : (Try.prog.info? 22).map (fun i => (i.zero, i.size, i.bytes)) = some (some (.slice none 0 0), 1, 24) := by kernel_rfl
theorem ints_set (xs : List Int) (p : Nat) (v : Int) : (ints xs).set p (.int .i64 v) = ints (xs.set p v) := by simp [ints, List.map_set]

set_option maxHeartbeats 4000000 in
set_option maxRecDepth 100000 in
theorem clocks_any (a : Option Addr) (cap : Nat) (l : List Ev) (w : World) (hx : EvRow w a l) (hlc : l.length ≤ cap) (hc : cap ≤ 9223372036854775807) (hn : l.length ≤ 200) (hv : Valid l) :
    Calls Try.prog 24 #[.slice a l.length cap] w fun e w' => ∃ v vs, e = .returned (.tuple #[v, .int .i64 0]) ∧ w'.ownsRow w.heap.size 22 1 v l.length vs ∧ (∀ i, i < l.length → ∃ u, vs[i]? = some u ∧ Row8 w' w.heap.size u (clockAt l i)) ∧ Upd [] w w' := by
  obtain ⟨n, hnl⟩ : ∃ n, n = l.length := ⟨_, rfl⟩
  rw [← hnl] at hlc hn ⊢
  have HX := hid hx
  have HN := hid hnl
  have HV := hid hv
  clear hx hnl hv
  have hmm := @run_makeMap Try.prog
  go_enter Try.func24, Try.ntmps24
  go_wp2_with fail
  have chk := check_any a cap l w HX.out (by rw [← HN.out]; exact hlc) hc (by rw [← HN.out]; exact hn)
  rw [← HN.out] at chk
  refine chk.mono ?_
  rintro e w1 ⟨c, rfl, hc0, hu⟩
  have hc00 : c = 0 := hc0.2 HV.out
  subst hc00
  have HU1 := hid hu
  clear hu hc0 chk
  go_wp2_with fail
  obtain ⟨A, hA⟩ : ∃ A, A = w1.heap.size := ⟨_, rfl⟩
  have HA := hid hA
  obtain ⟨W0, hW0⟩ : ∃ W0, W0 = w1.alloc (.cells #[.slice none 0 0, .slice none 0 0, .slice none 0 0, .slice none 0 0, .slice none 0 0, .slice none 0 0, .slice none 0 0, .slice none 0 0] 74) := ⟨_, rfl⟩
  have n0 : Nows W0 w.heap.size A 74 0 (fun _ => zero8) := ⟨_, by rw [hW0, hA]; exact blk_new w1 _, rfl, fun p hp => by omega⟩
  have u0 : Upd [] w W0 := by rw [hW0]; exact HU1.out.alloc _
  have N0 := hid n0
  have U0 := hid u0
  clear n0 u0
  rw [← hW0, ← hA]
  have HAw := hid (show w.heap.size ≤ A by rw [hA]; exact HU1.out.size)
  clear hW0 hA HU1
  obtain ⟨i0, hi, hz0, hz1, hz2⟩ := info_parts CL.info3
  have hmk : ∀ w, (Instr.makeSlice 22 (.int .i64 8) (.int .i64 8)).run Try.prog w = .ok (.slice (some ⟨w.heap.size, 0, none⟩) 8 8) (w.alloc (.cells (ints zero8).toArray 3)) := fun w => by
    have := run_make (P := Try.prog) w 22 3 i0 _ Try.underlying22 hi hz0 .i64 .i64 8 8 (by omega) (by omega) (by rw [hz2]; omega) (by omega)
    rw [this, hz1]
    have e : madeCells (Value.cells (.int .i64 0)) (Int.toNat 8 * 1) = (ints zero8).toArray := by
      apply Array.ext'
      rw [show (Value.int .i64 0).cells = #[.int .i64 0] from rfl, toList_madeCells_one]
      simp [ints, zero8]
    rw [e]; rfl
  clear hi hz0 hz1 hz2
  go_loopg [6, 17] 8 (fun d v6 v17 wr => ∃ (j : Nat), v17 = .int .i64 (j : Int) ∧ Hid (j + d = 8) ∧ Hid (Nows wr w.heap.size A 74 j (fun _ => zero8)) ∧ Hid (Upd [] w wr))
  case atStart => exact ⟨0, rfl, by show _ = _; omega, N0.out, U0.out⟩
  case round =>
    clear N0 U0
    obtain ⟨j, rfl, Hj, Hnow, Hu⟩ := hrel
    by_cases hj : j < 8
    · obtain ⟨cs, hb, hsz, hr⟩ := Hnow.out
      have hjs : j < cs.size := by omega
      obtain ⟨u, hu⟩ : ∃ u, cs[j]? = some u := ⟨_, Array.getElem?_eq_getElem hjs⟩
      have hcell : ∀ o, (wr.alloc o).cell? ⟨A, j, none⟩ = some u := fun o => (blk_cell (blk_alloc hb o) j).trans hu
      have hfr : ∀ o, (wr.alloc o).frozen? ⟨A, j, none⟩ = false := fun o => blk_frozen (blk_alloc hb o) j
      have HB := hid hb
      have HS := hid hsz
      have HR := hid hr
      clear hb hsz hr hjs hu
      go_wp2_with fail
      go_roundg (8 - (j + 1))
      case measure => have := Hj.out; omega
      case rel =>
        refine ⟨j + 1, by go_num, by show _ = _; omega, ?_, ?_⟩
        · have h0 := blk_set (blk_alloc HB.out (.cells (ints zero8).toArray 3)) j (.slice (some ⟨wr.heap.size, 0, none⟩) 8 8)
          have hAl : A < wr.heap.size := blk_lt HB.out
          have hup : Upd [A] wr ((wr.alloc (.cells (ints zero8).toArray 3)).setCell ⟨A, j, none⟩ (.slice (some ⟨wr.heap.size, 0, none⟩) 8 8)) := ((Upd.refl [A] wr).alloc _).setCell (.inl (by simp)) _
          refine ⟨_, h0, by simpa using HS.out, fun p hp => ?_⟩
          by_cases hpj : j = p
          · subst hpj
            refine ⟨.slice (some ⟨wr.heap.size, 0, none⟩) 8 8, by rw [Array.getElem?_setIfInBounds_self_of_lt (by rw [HS.out]; exact hj)], by simp [ints, zero8], .inr ⟨wr.heap.size, 8, (ints zero8).toArray, rfl, Hu.out.size, ?_, Nat.le_refl _, by decide, by simp [ints, zero8], by simp [ints, zero8]⟩⟩
            exact blk_far (blk_new wr _) (p := ⟨A, j, none⟩) (by show wr.heap.size ≠ A; omega) _
          · obtain ⟨v, hv, hr8⟩ := HR.out p (by omega)
            refine ⟨v, by rw [Array.getElem?_setIfInBounds_ne hpj]; exact hv, own_upd hr8 hup (fun k hk => ?_)⟩
            have := own_cells_ne hr8 HB.out (by decide) k hk
            simpa using this
        · exact (Hu.out.alloc _).setCell (.inr (by show w.heap.size ≤ A; exact HAw.out)) _
    · have hj8 : j = 8 := by have := Hj.out; omega
      subst hj8
      clear Hj hj hmk
      obtain ⟨Q, hQ⟩ : ∃ Q, Q = wr.heap.size := ⟨_, rfl⟩
      have HQ := hid hQ
      have hQw : w.heap.size ≤ Q := by rw [hQ]; exact Hu.out.size
      have mp : IsMap (wr.alloc (.map #[] 0)) Q [] := by rw [hQ]; exact IsMap.made wr
      have MP := hid mp
      have QW := hid hQw
      clear mp hQw
      go_wp2_with fail
      rw [← hQ]
      have N1 : Hid (Nows (wr.alloc (.map #[] 0)) w.heap.size A 74 8 (stOf []).now) := by
        obtain ⟨cs, hb, hsz, hr⟩ := Hnow.out
        refine ⟨cs, blk_alloc hb _, hsz, fun p hp => ?_⟩
        obtain ⟨v, hv, h8⟩ := hr p hp
        exact ⟨v, hv, h8.alloc _⟩
      have U1 : Hid (Upd [] w (wr.alloc (.map #[] 0))) := Hu.out.alloc _
      clear Hnow Hu hQ hmm
      go_loopg [8, 27] n (fun d v8 v27 wq => ∃ (j : Nat) (vs : List Value) (mm : Mp), v27 = .int .i64 (j : Int) ∧ Hid (j + d = n) ∧ Hid (Nows wq w.heap.size A 74 8 (stOf (l.take j)).now) ∧ Hid (IsMap wq Q mm) ∧ Hid (∀ m, m ∈ sends (l.take j) → ∃ v, mlook mm (m : Int) = some v ∧ Row8 wq w.heap.size v ((stOf (l.take j)).way m)) ∧ Hid (wq.ownsRow w.heap.size 22 1 v8 j vs) ∧ Hid (∀ i, i < j → ∃ u, vs[i]? = some u ∧ Row8 wq w.heap.size u (clockAt l i)) ∧ Hid (Upd [] w wq))
      case atStart => exact ⟨0, [], [], rfl, by show _ = _; omega, N1.out, MP.out, hid (fun m hm => by simp [sends] at hm), World.ownsRow_nil _ _ _ _, hid (fun i hi => by omega), U1.out⟩
      case round =>
        clear N1 MP U1
        obtain ⟨j, vs, mm, rfl, Hj, Hnow, HM, HW, HO, HC, Hu⟩ := hrel
        by_cases hj : j < n
        · obtain ⟨g, rfl, c0, c1, c2⟩ := HX.out.upd Hu.out j (by rw [← HN.out]; exact hj)
          have hft := HV.out j (by rw [← HN.out]; exact hj)
          have hsd := sound_take HV.out j (by rw [← HN.out]; omega)
          obtain ⟨ev, hev⟩ : ∃ ev, ev = l.getD j noEv := ⟨_, rfl⟩
          rw [← hev] at c0 c1 c2 hft
          have HE := hid hev
          have HF := hid hft
          have HS := hid hsd
          have hpl : ev.place < 8 := hft.p8
          obtain ⟨cs, hb, hsz, hr⟩ := Hnow.out
          obtain ⟨v, hv, h8⟩ := hr ev.place hpl
          obtain ⟨g8, cap8, rfl, hg8b, hcap1, hcap2, hlen8, hg8, hg8f, hg8l⟩ := h8.some
          have hcA : ∀ o, (wr.alloc o).cell? ⟨A, ev.place, none⟩ = some (.slice (some ⟨g8, 0, none⟩) 8 cap8) := fun o => (blk_cell (blk_alloc hb o) _).trans hv
          have HB := hid hb
          have HSZ := hid hsz
          have HR := hid hr
          have H8 := hid h8
          have HG8 := hid hg8
          obtain ⟨pl, kd, ms⟩ := ev
          simp only at c0 c1 c2 hpl hcA
          clear hev hft hsd hb hsz hr hv h8 hg8 hg8f hg8l hlen8 hg8b hcap1 hcap2
          go_wp2_with fail
          have hEb := hid (blk_new wr (.cells #[.int .i64 (pl : Int), .int .i64 (kd : Int), .int .i64 (ms : Int)] 31))
          have H8a : Hid (Row8 (wr.alloc (.cells #[.int .i64 (pl : Int), .int .i64 (kd : Int), .int .i64 (ms : Int)] 31)) w.heap.size (.slice (some ⟨g8, 0, none⟩) 8 cap8) ((stOf (l.take j)).now pl)) := H8.out.alloc _
          refine (clone8 H8a.out).mono ?_
          rintro e w2 ⟨gk2, capk, rfl, hrow, hgk, hu⟩
          rw [World.size_alloc] at hrow hgk
          have HRc := hid hrow
          have HUc := hid hu
          have HGk := hid hgk
          have hfit : (Fine (l.take j).length ((stOf (l.take j)).pre ⟨pl, kd, ms⟩)) := pre_fine HS.out HF.out
          have HPF := hid hfit
          clear hrow hu hgk hfit hcA
          rcases (show kd = 3 ∨ kd = 2 ∨ (kd ≠ 3 ∧ kd ≠ 2) by omega) with hk | hk | hk
          · have hk3 : ((kd : Int) == 3) = true := by rw [beq_iff_eq]; omega
            have hk2 : ((kd : Int) == 2) = false := by rw [beq_eq_false_iff_ne]; omega
            obtain ⟨vm, hvm, h8m⟩ := HW.out ms (HF.out.took1 (by show kd = 3; omega))
            have hwr2 : Upd [] wr w2 := ((Upd.refl [] wr).alloc _).trans HUc.out (by simp)
            obtain ⟨gm, capm, rfl, -⟩ := h8m.some
            have L1 : (Instr.lookup 75 (.map (some Q)) (.int .i64 (ms : Int)) false).run Try.prog w2 = .ok (.slice (some ⟨gm, 0, none⟩) 8 capm) w2 := by
              have := (run_look (P := Try.prog) (HM.out.upd hwr2 (by simp)) Try.underlying75 Try.underlying3 (zero22 _) (ms : Int)).1
              rw [hvm] at this; exact this
            have r8m : Hid (Row8 w2 w.heap.size (.slice (some ⟨gm, 0, none⟩) 8 capm) ((stOf (l.take j)).way ms)) := own_new h8m hwr2
            have hE2 := HUc.out.blk hEb.out (by simp)
            have q2a : w2.cell? ⟨wr.heap.size, 2, none⟩ = some (.int .i64 (ms : Int)) := (blk_cell hE2 2).trans rfl
            have q1a : w2.cell? ⟨wr.heap.size, 1, none⟩ = some (.int .i64 (kd : Int)) := (blk_cell hE2 1).trans rfl
            clear hE2 hvm h8m hwr2
            go_wp2_with fail
            refine (join_any _ 8 _ ((stOf (l.take j)).now pl) _ 8 _ ((stOf (l.take j)).way ms) w2 HRc.out.intRow.1 HRc.out.intRow.2 r8m.out.intRow.1 r8m.out.intRow.2 (by omega) (by omega)).mono ?_
            rintro e w3 ⟨vj, rfl, hoj, huj⟩
            have hjl : (joinL ((stOf (l.take j)).now pl) ((stOf (l.take j)).way ms)).length = 8 := by rw [joinL_length, HRc.out.intRow.2, r8m.out.intRow.2]; rfl
            have hpre : (stOf (l.take j)).pre ⟨pl, kd, ms⟩ = joinL ((stOf (l.take j)).now pl) ((stOf (l.take j)).way ms) := by unfold St.pre; rw [if_pos (by show kd = 3; omega)]
            rw [hjl] at hoj
            have hsz : wr.heap.size + 1 ≤ w2.heap.size := by have := HUc.out.size; rw [World.size_alloc] at this; exact this
            have hr3 : Row8 w3 (wr.heap.size + 1) vj ((stOf (l.take j)).pre ⟨pl, kd, ms⟩) := by rw [hpre]; exact own_mono hoj hsz
            obtain ⟨gc, capc, rfl, hgc, -⟩ := hr3.some
            have HR3 := hid hr3
            have HGc := hid hgc
            have HU3 := hid (HUc.out.trans huj (by simp))
            clear hoj huj hjl hpre hsz hr3 hgc L1 q2a q1a HRc HUc HGk r8m
            obtain ⟨x, hx⟩ : ∃ x, x = ((stOf (l.take j)).pre ⟨pl, kd, ms⟩).getD pl 0 := ⟨_, rfl⟩
            have hx0 : 0 ≤ x := by rw [hx]; exact HPF.out.low pl
            have hx1 : x ≤ 200 := by have a := HPF.out.high pl; rw [← hx] at a; simp at a; omega
            obtain ⟨gc', capc', hce, -, -, -, hl8, hc8, hf8, -⟩ := HR3.out.some
            cases hce
            have qx : w3.cell? ⟨gc, pl, none⟩ = some (.int .i64 x) := by rw [hx]; exact hc8 pl (by omega)
            have qxf : w3.frozen? ⟨gc, pl, none⟩ = false := hf8 pl
            have hAlt : A < wr.heap.size := blk_lt HB.out
            have hgE : gc ≠ wr.heap.size := by have := HGc.out; omega
            have hgA : gc ≠ A := by have := HGc.out; omega
            have hAE : A ≠ wr.heap.size := by omega
            have hE3 := HU3.out.blk hEb.out (by simp)
            have hA3 := HU3.out.blk (blk_alloc HB.out _) (by simp)
            have q0 : w3.cell? ⟨wr.heap.size, 0, none⟩ = some (.int .i64 (pl : Int)) := (blk_cell hE3 0).trans rfl
            have hE4 : ∀ v, (w3.setCell ⟨gc, pl, none⟩ v).heap[wr.heap.size]? = some (.cells #[.int .i64 (pl : Int), .int .i64 (kd : Int), .int .i64 (ms : Int)] 31) := fun v => blk_far hE3 (Ne.symm hgE) v
            have hA4 : ∀ v, (w3.setCell ⟨gc, pl, none⟩ v).heap[A]? = some (.cells cs 74) := fun v => blk_far hA3 (Ne.symm hgA) v
            have hE5 : ∀ v v', ((w3.setCell ⟨gc, pl, none⟩ v).setCell ⟨A, pl, none⟩ v').heap[wr.heap.size]? = some (.cells #[.int .i64 (pl : Int), .int .i64 (kd : Int), .int .i64 (ms : Int)] 31) := fun v v' => blk_far (hE4 v) (Ne.symm hAE) v'
            have q0' : ∀ v, (w3.setCell ⟨gc, pl, none⟩ v).cell? ⟨wr.heap.size, 0, none⟩ = some (.int .i64 (pl : Int)) := fun v => (blk_cell (hE4 v) 0).trans rfl
            have q1 : ∀ v v', ((w3.setCell ⟨gc, pl, none⟩ v).setCell ⟨A, pl, none⟩ v').cell? ⟨wr.heap.size, 1, none⟩ = some (.int .i64 (kd : Int)) := fun v v' => (blk_cell (hE5 v v') 1).trans rfl
            have q2 : ∀ v v', ((w3.setCell ⟨gc, pl, none⟩ v).setCell ⟨A, pl, none⟩ v').cell? ⟨wr.heap.size, 2, none⟩ = some (.int .i64 (ms : Int)) := fun v v' => (blk_cell (hE5 v v') 2).trans rfl
            have hple : pl < cs.size := by rw [HSZ.out]; exact hpl
            obtain ⟨ua, hua⟩ : ∃ ua, cs[pl]? = some ua := ⟨_, Array.getElem?_eq_getElem hple⟩
            have qA : ∀ v, (w3.setCell ⟨gc, pl, none⟩ v).cell? ⟨A, pl, none⟩ = some ua := fun v => (blk_cell (hA4 v) pl).trans hua
            have qAf : ∀ v, (w3.setCell ⟨gc, pl, none⟩ v).frozen? ⟨A, pl, none⟩ = false := fun v => blk_frozen (hA4 v) pl
            -- the worlds by name
            obtain ⟨w5, hw5⟩ : ∃ w5, w5 = (w3.setCell ⟨gc, pl, none⟩ (.int .i64 (x + 1))).setCell ⟨A, pl, none⟩ (.slice (some ⟨gc, 0, none⟩) 8 capc) := ⟨_, rfl⟩
            have hclk : (stOf (l.take j)).clk ⟨pl, kd, ms⟩ = ((stOf (l.take j)).pre ⟨pl, kd, ms⟩).set pl (x + 1) := by rw [hx]; rfl
            have r4 : Row8 (w3.setCell ⟨gc, pl, none⟩ (.int .i64 (x + 1))) (wr.heap.size + 1) (.slice (some ⟨gc, 0, none⟩) 8 capc) ((stOf (l.take j)).clk ⟨pl, kd, ms⟩) := by
              rw [hclk]; have := row_set (i := pl) HR3.out (by rw [ints_length]; omega) (.int .i64 (x + 1)); rw [ints_set] at this; exact this
            have r5 : Row8 w5 (wr.heap.size + 1) (.slice (some ⟨gc, 0, none⟩) 8 capc) ((stOf (l.take j)).clk ⟨pl, kd, ms⟩) := by
              rw [hw5]; exact own_upd r4 ((Upd.refl [A] _).setCell (.inl (by simp)) _) (fun k hk => by cases hk; simpa using hgA)
            have a5 : w5.heap[A]? = some (.cells (cs.setIfInBounds pl (.slice (some ⟨gc, 0, none⟩) 8 capc)) 74) := by rw [hw5]; exact blk_set (hA4 _) pl _
            have u5' : Upd [A] wr w5 := by
              rw [hw5]
              exact ((((Upd.refl [A] wr).alloc (.cells #[.int .i64 (pl : Int), .int .i64 (kd : Int), .int .i64 (ms : Int)] 31)).trans HU3.out (by simp)).setCell (.inr (by show wr.heap.size ≤ gc; have := HGc.out; omega)) _).setCell (.inl (by simp)) _
            have m5 : IsMap w5 Q mm := HM.out.upd u5' (by simpa using (HM.out.ne_cells HB.out))
            have R5 := hid r5
            have A5 := hid a5
            have U5 := hid u5'
            have M5 := hid m5
            clear r4 r5 a5 u5' m5 hclk hE3 hA3 hE4 hE5 hA4 hua hple hl8 hc8 hf8 hx
            have HW5 := hid hw5
            clear hw5
            go_wp2_with fail
            rw [← HW5.out]
            have R6 := R5
            have A6 := A5
            have U6 : Hid (Upd [A, Q] wr w5) := U5.out.mono (by simp)
            have M6 := M5
            obtain ⟨w6, hw6⟩ : ∃ w6, w6 = w5 := ⟨_, rfl⟩
            rw [← hw6] at R6 A6 U6 M6 ⊢
            clear hw6
            refine (clone8 R6.out).mono ?_
            rintro e w6b ⟨gr, capr, rfl, hrow, hgr, hu⟩
            have RR := hid hrow
            have U6b := hid hu
            have GR := hid hgr
            clear hrow hu hgr
            obtain ⟨i22, hi, hz0, hz1, hz2⟩ := info_parts info22
            have HI := hid hi
            have I0 := hid hz0
            have I1 := hid hz1
            have I2 := hid hz2
            clear hi hz0 hz1 hz2
            have O6 : Hid (w6.ownsRow w.heap.size 22 1 u8 j vs) := own_upd HO.out U6.out (fun k hk => by
              have a := own_cells_ne HO.out HB.out (by decide) k hk
              have b := own_map_ne HO.out HM.out k hk
              simp [a, b])
            have O6b : Hid (w6b.ownsRow w.heap.size 22 1 u8 j vs) := own_upd O6.out U6b.out (fun _ _ => by simp)
            go_wp2_with (first | (at_builtin; refine wpList_app (W := w6b) rfl (.tmp 63) (.tmp 66) 37 rfl w.heap.size 22 i22 _ 1 24 Try.underlying37 HI.out I0.out I1.out I2.out rfl (by decide) u8 j vs rfl O6b.out [.slice (some ⟨gr, 0, none⟩) 8 capr] 22 rfl rfl (by intro u hu; simp at hu; subst hu; rfl) (by omega) (by omega) (Nat.le_trans (Nat.le_trans Hu.out.size U6.out.size) U6b.out.size) ?_; intro v8' w7 ho2 hu2 hl2; have HO2 := hid ho2; have HU2 := hid hu2; clear ho2 hu2 hl2))
            go_roundg (n - (j + 1))
            case measure => have := Hj.out; omega
            case rel =>
              have ht := take_succ l j (by rw [← HN.out]; exact hj)
              rw [← HE.out] at ht
              have hst : stOf (l.take (j + 1)) = (stOf (l.take j)).step ⟨pl, kd, ms⟩ := by rw [ht, stOf_snoc]
              have hca : clockAt l j = (stOf (l.take j)).clk ⟨pl, kd, ms⟩ := by unfold clockAt; rw [← HE.out]
              have u67 : Upd u8.ownBlock.toList w6 w7 := U6b.out.mono (by simp) |>.trans HU2.out (fun t ht => .inl ht)
              have keep : ∀ {B : Nat} {v : Value} {xs : List Int}, Row8 w6 B v xs → Row8 w7 B v xs := fun h => own_upd h u67 (fun k hk => by
                intro hm
                cases e : u8.ownBlock with
                | none => rw [e] at hm; simp at hm
                | some k' => rw [e] at hm; simp at hm; exact own_own_ne h O6.out (by decide) k hk k' e hm)
              have keep0 : ∀ {v : Value} {xs : List Int}, Row8 wr w.heap.size v xs → Row8 w7 w.heap.size v xs := fun h => keep (own_upd h U6.out (fun k hk => by
                have a := own_cells_ne h HB.out (by decide) k hk
                have b := own_map_ne h HM.out k hk
                simp [a, b]))
              have hAb : A ∉ u8.ownBlock.toList := by
                intro hm
                cases e : u8.ownBlock with
                | none => rw [e] at hm; simp at hm
                | some k' => rw [e] at hm; simp at hm; exact own_cells_ne HO.out HB.out (by decide) k' e hm.symm
              have hQb : Q ∉ u8.ownBlock.toList := by
                intro hm
                cases e : u8.ownBlock with
                | none => rw [e] at hm; simp at hm
                | some k' => rw [e] at hm; simp at hm; exact own_map_ne HO.out HM.out k' e hm.symm
              have ww : w.heap.size ≤ wr.heap.size := Hu.out.size
              have rc : Row8 w7 w.heap.size (.slice (some ⟨gc, 0, none⟩) 8 capc) ((stOf (l.take j)).clk ⟨pl, kd, ms⟩) := (keep R6.out).mono (by omega)
              refine ⟨j + 1, (vs ++ [Value.slice (some (⟨gr, 0, none⟩ : Addr)) 8 capr] : List Value), mm, by go_num, by show _ = _; omega, ⟨_, u67.blk A6.out hAb, by simpa using HSZ.out, fun p hp => ?_⟩, M6.out.upd u67 hQb, ?_, HO2.out, ?_, ?_⟩
              · rw [hst]
                by_cases hpp : pl = p
                · subst hpp
                  refine ⟨_, by rw [Array.getElem?_setIfInBounds_self_of_lt (by rw [HSZ.out]; exact hp)], ?_⟩
                  show Row8 _ _ _ (if pl = pl then _ else _)
                  rw [if_pos rfl]; exact rc
                · obtain ⟨v, hv, h8⟩ := HR.out p hp
                  refine ⟨v, by rw [Array.getElem?_setIfInBounds_ne hpp]; exact hv, ?_⟩
                  show Row8 _ _ _ (if p = pl then _ else _)
                  rw [if_neg (Ne.symm hpp)]; exact keep0 h8
              · rw [hst]
                refine hid (fun m hm => ?_)
                have hm' : m ∈ sends (l.take j) := by rw [ht, sends_snoc, if_neg (by show ¬ kd = 2; omega)] at hm; exact hm
                obtain ⟨v, hv, h8⟩ := HW.out m hm'
                refine ⟨v, hv, ?_⟩
                show Row8 _ _ _ (if kd = 2 ∧ m = ms then _ else _)
                rw [if_neg (by omega)]; exact keep0 h8
              · refine hid (fun i hi => ?_)
                by_cases hij : i = j
                · subst hij
                  have hvl : vs.length = i := by have := HO.out.1; omega
                  refine ⟨_, by rw [List.getElem?_append_right (by omega), hvl, Nat.sub_self]; rfl, ?_⟩
                  rw [hca]
                  exact Row8.mono (own_upd RR.out HU2.out (fun k hk => by
                    intro hm
                    cases e : u8.ownBlock with
                    | none => rw [e] at hm; simp at hm
                    | some k' => rw [e] at hm; simp at hm; exact own_own_ne RR.out O6b.out (by decide) k hk k' e hm)) (Nat.le_trans ww U6.out.size)
                · obtain ⟨v, hv, h8⟩ := HC.out i (by omega)
                  have hvl : vs.length = j := by have := HO.out.1; omega
                  exact ⟨v, by rw [List.getElem?_append_left (by omega)]; exact hv, keep0 h8⟩
              · have a : Upd [A, Q] w w6 := (Hu.out.mono (by simp)).trans U6.out (fun t ht => .inl ht)
                have b := a.trans u67 (T := u8.ownBlock.toList) (fun t ht => .inr (by
                  cases e : u8.ownBlock with
                  | none => rw [e] at ht; simp at ht
                  | some k' => rw [e] at ht; simp at ht; subst ht; exact own_ge HO.out _ e))
                exact b.mono (fun t ht => .inr (by simp at ht; rcases ht with rfl | rfl; exact HAw.out; exact QW.out))
          · have hk3 : ((kd : Int) == 3) = false := by rw [beq_eq_false_iff_ne]; omega
            have hk2 : ((kd : Int) == 2) = true := by rw [beq_iff_eq]; omega
            have hE2 := HUc.out.blk hEb.out (by simp)
            have q1a : w2.cell? ⟨wr.heap.size, 1, none⟩ = some (.int .i64 (kd : Int)) := (blk_cell hE2 1).trans rfl
            have hpre : (stOf (l.take j)).pre ⟨pl, kd, ms⟩ = (stOf (l.take j)).now pl := by unfold St.pre; rw [if_neg (by show ¬ kd = 3; omega)]
            obtain ⟨w3, hw3⟩ : ∃ w3, w3 = w2 := ⟨_, rfl⟩
            obtain ⟨gc, hgc⟩ : ∃ gc, gc = gk2 := ⟨_, rfl⟩
            obtain ⟨capc, hcc⟩ : ∃ capc, capc = capk := ⟨_, rfl⟩
            rw [← hw3, ← hgc, ← hcc] at HRc ⊢
            rw [← hw3] at HUc q1a
            rw [← hgc] at HGk
            have HR3 : Hid (Row8 w3 (wr.heap.size + 1) (.slice (some ⟨gc, 0, none⟩) 8 capc) ((stOf (l.take j)).pre ⟨pl, kd, ms⟩)) := by rw [hpre]; exact HRc.out
            have HGc := HGk
            have HU3 := HUc
            clear hE2 hpre hw3 hgc hcc HRc HUc HGk
            obtain ⟨x, hx⟩ : ∃ x, x = ((stOf (l.take j)).pre ⟨pl, kd, ms⟩).getD pl 0 := ⟨_, rfl⟩
            have hx0 : 0 ≤ x := by rw [hx]; exact HPF.out.low pl
            have hx1 : x ≤ 200 := by have a := HPF.out.high pl; rw [← hx] at a; simp at a; omega
            obtain ⟨gc', capc', hce, -, -, -, hl8, hc8, hf8, -⟩ := HR3.out.some
            cases hce
            have qx : w3.cell? ⟨gc, pl, none⟩ = some (.int .i64 x) := by rw [hx]; exact hc8 pl (by omega)
            have qxf : w3.frozen? ⟨gc, pl, none⟩ = false := hf8 pl
            have hAlt : A < wr.heap.size := blk_lt HB.out
            have hgE : gc ≠ wr.heap.size := by have := HGc.out; omega
            have hgA : gc ≠ A := by have := HGc.out; omega
            have hAE : A ≠ wr.heap.size := by omega
            have hE3 := HU3.out.blk hEb.out (by simp)
            have hA3 := HU3.out.blk (blk_alloc HB.out _) (by simp)
            have q0 : w3.cell? ⟨wr.heap.size, 0, none⟩ = some (.int .i64 (pl : Int)) := (blk_cell hE3 0).trans rfl
            have hE4 : ∀ v, (w3.setCell ⟨gc, pl, none⟩ v).heap[wr.heap.size]? = some (.cells #[.int .i64 (pl : Int), .int .i64 (kd : Int), .int .i64 (ms : Int)] 31) := fun v => blk_far hE3 (Ne.symm hgE) v
            have hA4 : ∀ v, (w3.setCell ⟨gc, pl, none⟩ v).heap[A]? = some (.cells cs 74) := fun v => blk_far hA3 (Ne.symm hgA) v
            have hE5 : ∀ v v', ((w3.setCell ⟨gc, pl, none⟩ v).setCell ⟨A, pl, none⟩ v').heap[wr.heap.size]? = some (.cells #[.int .i64 (pl : Int), .int .i64 (kd : Int), .int .i64 (ms : Int)] 31) := fun v v' => blk_far (hE4 v) (Ne.symm hAE) v'
            have q0' : ∀ v, (w3.setCell ⟨gc, pl, none⟩ v).cell? ⟨wr.heap.size, 0, none⟩ = some (.int .i64 (pl : Int)) := fun v => (blk_cell (hE4 v) 0).trans rfl
            have q1 : ∀ v v', ((w3.setCell ⟨gc, pl, none⟩ v).setCell ⟨A, pl, none⟩ v').cell? ⟨wr.heap.size, 1, none⟩ = some (.int .i64 (kd : Int)) := fun v v' => (blk_cell (hE5 v v') 1).trans rfl
            have q2 : ∀ v v', ((w3.setCell ⟨gc, pl, none⟩ v).setCell ⟨A, pl, none⟩ v').cell? ⟨wr.heap.size, 2, none⟩ = some (.int .i64 (ms : Int)) := fun v v' => (blk_cell (hE5 v v') 2).trans rfl
            have hple : pl < cs.size := by rw [HSZ.out]; exact hpl
            obtain ⟨ua, hua⟩ : ∃ ua, cs[pl]? = some ua := ⟨_, Array.getElem?_eq_getElem hple⟩
            have qA : ∀ v, (w3.setCell ⟨gc, pl, none⟩ v).cell? ⟨A, pl, none⟩ = some ua := fun v => (blk_cell (hA4 v) pl).trans hua
            have qAf : ∀ v, (w3.setCell ⟨gc, pl, none⟩ v).frozen? ⟨A, pl, none⟩ = false := fun v => blk_frozen (hA4 v) pl
            -- the worlds by name
            obtain ⟨w5, hw5⟩ : ∃ w5, w5 = (w3.setCell ⟨gc, pl, none⟩ (.int .i64 (x + 1))).setCell ⟨A, pl, none⟩ (.slice (some ⟨gc, 0, none⟩) 8 capc) := ⟨_, rfl⟩
            have hclk : (stOf (l.take j)).clk ⟨pl, kd, ms⟩ = ((stOf (l.take j)).pre ⟨pl, kd, ms⟩).set pl (x + 1) := by rw [hx]; rfl
            have r4 : Row8 (w3.setCell ⟨gc, pl, none⟩ (.int .i64 (x + 1))) (wr.heap.size + 1) (.slice (some ⟨gc, 0, none⟩) 8 capc) ((stOf (l.take j)).clk ⟨pl, kd, ms⟩) := by
              rw [hclk]; have := row_set (i := pl) HR3.out (by rw [ints_length]; omega) (.int .i64 (x + 1)); rw [ints_set] at this; exact this
            have r5 : Row8 w5 (wr.heap.size + 1) (.slice (some ⟨gc, 0, none⟩) 8 capc) ((stOf (l.take j)).clk ⟨pl, kd, ms⟩) := by
              rw [hw5]; exact own_upd r4 ((Upd.refl [A] _).setCell (.inl (by simp)) _) (fun k hk => by cases hk; simpa using hgA)
            have a5 : w5.heap[A]? = some (.cells (cs.setIfInBounds pl (.slice (some ⟨gc, 0, none⟩) 8 capc)) 74) := by rw [hw5]; exact blk_set (hA4 _) pl _
            have u5' : Upd [A] wr w5 := by
              rw [hw5]
              exact ((((Upd.refl [A] wr).alloc (.cells #[.int .i64 (pl : Int), .int .i64 (kd : Int), .int .i64 (ms : Int)] 31)).trans HU3.out (by simp)).setCell (.inr (by show wr.heap.size ≤ gc; have := HGc.out; omega)) _).setCell (.inl (by simp)) _
            have m5 : IsMap w5 Q mm := HM.out.upd u5' (by simpa using (HM.out.ne_cells HB.out))
            have R5 := hid r5
            have A5 := hid a5
            have U5 := hid u5'
            have M5 := hid m5
            clear r4 r5 a5 u5' m5 hclk hE3 hA3 hE4 hE5 hA4 hua hple hl8 hc8 hf8 hx
            have HW5 := hid hw5
            clear hw5
            go_wp2_with (first | (at_mapUpdate; rw [← HW5.out]; refine wpList_put rfl _ _ _ 75 rfl 3 22 Try.underlying75 Try.underlying3 Q mm rfl M5.out _ _ rfl rfl ?_; intro w6 hm6 hu6; have M6 := hid hm6; have HU6 := hid hu6; clear hm6 hu6))
            have hQA : A ∉ [Q] := by simpa using (Ne.symm (HM.out.ne_cells HB.out))
            have A6 := hid (HU6.out.blk A5.out hQA)
            have R6 : Hid (Row8 w6 (wr.heap.size + 1) (.slice (some ⟨gc, 0, none⟩) 8 capc) ((stOf (l.take j)).clk ⟨pl, kd, ms⟩)) := own_upd R5.out HU6.out (fun k hk => by simpa using own_map_ne R5.out M5.out k hk)
            have U6 : Hid (Upd [A, Q] wr w6) := (U5.out.mono (by simp)).trans HU6.out (by simp)
            refine (clone8 R6.out).mono ?_
            rintro e w6b ⟨gr, capr, rfl, hrow, hgr, hu⟩
            have RR := hid hrow
            have U6b := hid hu
            have GR := hid hgr
            clear hrow hu hgr
            obtain ⟨i22, hi, hz0, hz1, hz2⟩ := info_parts info22
            have HI := hid hi
            have I0 := hid hz0
            have I1 := hid hz1
            have I2 := hid hz2
            clear hi hz0 hz1 hz2
            have O6 : Hid (w6.ownsRow w.heap.size 22 1 u8 j vs) := own_upd HO.out U6.out (fun k hk => by
              have a := own_cells_ne HO.out HB.out (by decide) k hk
              have b := own_map_ne HO.out HM.out k hk
              simp [a, b])
            have O6b : Hid (w6b.ownsRow w.heap.size 22 1 u8 j vs) := own_upd O6.out U6b.out (fun _ _ => by simp)
            go_wp2_with (first | (at_builtin; refine wpList_app (W := w6b) rfl (.tmp 63) (.tmp 66) 37 rfl w.heap.size 22 i22 _ 1 24 Try.underlying37 HI.out I0.out I1.out I2.out rfl (by decide) u8 j vs rfl O6b.out [.slice (some ⟨gr, 0, none⟩) 8 capr] 22 rfl rfl (by intro u hu; simp at hu; subst hu; rfl) (by omega) (by omega) (Nat.le_trans (Nat.le_trans Hu.out.size U6.out.size) U6b.out.size) ?_; intro v8' w7 ho2 hu2 hl2; have HO2 := hid ho2; have HU2 := hid hu2; clear ho2 hu2 hl2))
            go_roundg (n - (j + 1))
            case measure => have := Hj.out; omega
            case rel =>
              have ht := take_succ l j (by rw [← HN.out]; exact hj)
              rw [← HE.out] at ht
              have hst : stOf (l.take (j + 1)) = (stOf (l.take j)).step ⟨pl, kd, ms⟩ := by rw [ht, stOf_snoc]
              have hca : clockAt l j = (stOf (l.take j)).clk ⟨pl, kd, ms⟩ := by unfold clockAt; rw [← HE.out]
              have u67 : Upd u8.ownBlock.toList w6 w7 := U6b.out.mono (by simp) |>.trans HU2.out (fun t ht => .inl ht)
              have keep : ∀ {B : Nat} {v : Value} {xs : List Int}, Row8 w6 B v xs → Row8 w7 B v xs := fun h => own_upd h u67 (fun k hk => by
                intro hm
                cases e : u8.ownBlock with
                | none => rw [e] at hm; simp at hm
                | some k' => rw [e] at hm; simp at hm; exact own_own_ne h O6.out (by decide) k hk k' e hm)
              have keep0 : ∀ {v : Value} {xs : List Int}, Row8 wr w.heap.size v xs → Row8 w7 w.heap.size v xs := fun h => keep (own_upd h U6.out (fun k hk => by
                have a := own_cells_ne h HB.out (by decide) k hk
                have b := own_map_ne h HM.out k hk
                simp [a, b]))
              have hAb : A ∉ u8.ownBlock.toList := by
                intro hm
                cases e : u8.ownBlock with
                | none => rw [e] at hm; simp at hm
                | some k' => rw [e] at hm; simp at hm; exact own_cells_ne HO.out HB.out (by decide) k' e hm.symm
              have hQb : Q ∉ u8.ownBlock.toList := by
                intro hm
                cases e : u8.ownBlock with
                | none => rw [e] at hm; simp at hm
                | some k' => rw [e] at hm; simp at hm; exact own_map_ne HO.out HM.out k' e hm.symm
              have ww : w.heap.size ≤ wr.heap.size := Hu.out.size
              have rc : Row8 w7 w.heap.size (.slice (some ⟨gc, 0, none⟩) 8 capc) ((stOf (l.take j)).clk ⟨pl, kd, ms⟩) := (keep R6.out).mono (by omega)
              refine ⟨j + 1, (vs ++ [Value.slice (some (⟨gr, 0, none⟩ : Addr)) 8 capr] : List Value), (mput mm (ms : Int) (.slice (some ⟨gc, 0, none⟩) 8 capc)), by go_num, by show _ = _; omega, ⟨_, u67.blk A6.out hAb, by simpa using HSZ.out, fun p hp => ?_⟩, M6.out.upd u67 hQb, ?_, HO2.out, ?_, ?_⟩
              · rw [hst]
                by_cases hpp : pl = p
                · subst hpp
                  refine ⟨_, by rw [Array.getElem?_setIfInBounds_self_of_lt (by rw [HSZ.out]; exact hp)], ?_⟩
                  show Row8 _ _ _ (if pl = pl then _ else _)
                  rw [if_pos rfl]; exact rc
                · obtain ⟨v, hv, h8⟩ := HR.out p hp
                  refine ⟨v, by rw [Array.getElem?_setIfInBounds_ne hpp]; exact hv, ?_⟩
                  show Row8 _ _ _ (if p = pl then _ else _)
                  rw [if_neg (Ne.symm hpp)]; exact keep0 h8
              · rw [hst]
                refine hid (fun m hm => ?_)
                show ∃ v, mlook (mput mm (ms : Int) (.slice (some ⟨gc, 0, none⟩) 8 capc)) (m : Int) = some v ∧ Row8 _ _ v (if kd = 2 ∧ m = ms then _ else _)
                by_cases hmm : m = ms
                · subst hmm
                  refine ⟨_, by rw [mlook_put, if_pos rfl], ?_⟩
                  rw [if_pos ⟨by omega, rfl⟩]; exact rc
                · have hm' : m ∈ sends (l.take j) := by
                    rw [ht, sends_snoc, if_pos (by show kd = 2; omega)] at hm
                    rcases List.mem_append.1 hm with hm | hm
                    · exact hm
                    · exact absurd (List.mem_singleton.1 hm) hmm
                  obtain ⟨v, hv, h8⟩ := HW.out m hm'
                  refine ⟨v, by rw [mlook_put, if_neg (by omega)]; exact hv, ?_⟩
                  rw [if_neg (by omega)]; exact keep0 h8
              · refine hid (fun i hi => ?_)
                by_cases hij : i = j
                · subst hij
                  have hvl : vs.length = i := by have := HO.out.1; omega
                  refine ⟨_, by rw [List.getElem?_append_right (by omega), hvl, Nat.sub_self]; rfl, ?_⟩
                  rw [hca]
                  exact Row8.mono (own_upd RR.out HU2.out (fun k hk => by
                    intro hm
                    cases e : u8.ownBlock with
                    | none => rw [e] at hm; simp at hm
                    | some k' => rw [e] at hm; simp at hm; exact own_own_ne RR.out O6b.out (by decide) k hk k' e hm)) (Nat.le_trans ww U6.out.size)
                · obtain ⟨v, hv, h8⟩ := HC.out i (by omega)
                  have hvl : vs.length = j := by have := HO.out.1; omega
                  exact ⟨v, by rw [List.getElem?_append_left (by omega)]; exact hv, keep0 h8⟩
              · have a : Upd [A, Q] w w6 := (Hu.out.mono (by simp)).trans U6.out (fun t ht => .inl ht)
                have b := a.trans u67 (T := u8.ownBlock.toList) (fun t ht => .inr (by
                  cases e : u8.ownBlock with
                  | none => rw [e] at ht; simp at ht
                  | some k' => rw [e] at ht; simp at ht; subst ht; exact own_ge HO.out _ e))
                exact b.mono (fun t ht => .inr (by simp at ht; rcases ht with rfl | rfl; exact HAw.out; exact QW.out))
          · have hk3 : ((kd : Int) == 3) = false := by rw [beq_eq_false_iff_ne]; omega
            have hk2 : ((kd : Int) == 2) = false := by rw [beq_eq_false_iff_ne]; omega
            have hE2 := HUc.out.blk hEb.out (by simp)
            have q1a : w2.cell? ⟨wr.heap.size, 1, none⟩ = some (.int .i64 (kd : Int)) := (blk_cell hE2 1).trans rfl
            have hpre : (stOf (l.take j)).pre ⟨pl, kd, ms⟩ = (stOf (l.take j)).now pl := by unfold St.pre; rw [if_neg (by show ¬ kd = 3; omega)]
            obtain ⟨w3, hw3⟩ : ∃ w3, w3 = w2 := ⟨_, rfl⟩
            obtain ⟨gc, hgc⟩ : ∃ gc, gc = gk2 := ⟨_, rfl⟩
            obtain ⟨capc, hcc⟩ : ∃ capc, capc = capk := ⟨_, rfl⟩
            rw [← hw3, ← hgc, ← hcc] at HRc ⊢
            rw [← hw3] at HUc q1a
            rw [← hgc] at HGk
            have HR3 : Hid (Row8 w3 (wr.heap.size + 1) (.slice (some ⟨gc, 0, none⟩) 8 capc) ((stOf (l.take j)).pre ⟨pl, kd, ms⟩)) := by rw [hpre]; exact HRc.out
            have HGc := HGk
            have HU3 := HUc
            clear hE2 hpre hw3 hgc hcc HRc HUc HGk
            obtain ⟨x, hx⟩ : ∃ x, x = ((stOf (l.take j)).pre ⟨pl, kd, ms⟩).getD pl 0 := ⟨_, rfl⟩
            have hx0 : 0 ≤ x := by rw [hx]; exact HPF.out.low pl
            have hx1 : x ≤ 200 := by have a := HPF.out.high pl; rw [← hx] at a; simp at a; omega
            obtain ⟨gc', capc', hce, -, -, -, hl8, hc8, hf8, -⟩ := HR3.out.some
            cases hce
            have qx : w3.cell? ⟨gc, pl, none⟩ = some (.int .i64 x) := by rw [hx]; exact hc8 pl (by omega)
            have qxf : w3.frozen? ⟨gc, pl, none⟩ = false := hf8 pl
            have hAlt : A < wr.heap.size := blk_lt HB.out
            have hgE : gc ≠ wr.heap.size := by have := HGc.out; omega
            have hgA : gc ≠ A := by have := HGc.out; omega
            have hAE : A ≠ wr.heap.size := by omega
            have hE3 := HU3.out.blk hEb.out (by simp)
            have hA3 := HU3.out.blk (blk_alloc HB.out _) (by simp)
            have q0 : w3.cell? ⟨wr.heap.size, 0, none⟩ = some (.int .i64 (pl : Int)) := (blk_cell hE3 0).trans rfl
            have hE4 : ∀ v, (w3.setCell ⟨gc, pl, none⟩ v).heap[wr.heap.size]? = some (.cells #[.int .i64 (pl : Int), .int .i64 (kd : Int), .int .i64 (ms : Int)] 31) := fun v => blk_far hE3 (Ne.symm hgE) v
            have hA4 : ∀ v, (w3.setCell ⟨gc, pl, none⟩ v).heap[A]? = some (.cells cs 74) := fun v => blk_far hA3 (Ne.symm hgA) v
            have hE5 : ∀ v v', ((w3.setCell ⟨gc, pl, none⟩ v).setCell ⟨A, pl, none⟩ v').heap[wr.heap.size]? = some (.cells #[.int .i64 (pl : Int), .int .i64 (kd : Int), .int .i64 (ms : Int)] 31) := fun v v' => blk_far (hE4 v) (Ne.symm hAE) v'
            have q0' : ∀ v, (w3.setCell ⟨gc, pl, none⟩ v).cell? ⟨wr.heap.size, 0, none⟩ = some (.int .i64 (pl : Int)) := fun v => (blk_cell (hE4 v) 0).trans rfl
            have q1 : ∀ v v', ((w3.setCell ⟨gc, pl, none⟩ v).setCell ⟨A, pl, none⟩ v').cell? ⟨wr.heap.size, 1, none⟩ = some (.int .i64 (kd : Int)) := fun v v' => (blk_cell (hE5 v v') 1).trans rfl
            have q2 : ∀ v v', ((w3.setCell ⟨gc, pl, none⟩ v).setCell ⟨A, pl, none⟩ v').cell? ⟨wr.heap.size, 2, none⟩ = some (.int .i64 (ms : Int)) := fun v v' => (blk_cell (hE5 v v') 2).trans rfl
            have hple : pl < cs.size := by rw [HSZ.out]; exact hpl
            obtain ⟨ua, hua⟩ : ∃ ua, cs[pl]? = some ua := ⟨_, Array.getElem?_eq_getElem hple⟩
            have qA : ∀ v, (w3.setCell ⟨gc, pl, none⟩ v).cell? ⟨A, pl, none⟩ = some ua := fun v => (blk_cell (hA4 v) pl).trans hua
            have qAf : ∀ v, (w3.setCell ⟨gc, pl, none⟩ v).frozen? ⟨A, pl, none⟩ = false := fun v => blk_frozen (hA4 v) pl
            -- the worlds by name
            obtain ⟨w5, hw5⟩ : ∃ w5, w5 = (w3.setCell ⟨gc, pl, none⟩ (.int .i64 (x + 1))).setCell ⟨A, pl, none⟩ (.slice (some ⟨gc, 0, none⟩) 8 capc) := ⟨_, rfl⟩
            have hclk : (stOf (l.take j)).clk ⟨pl, kd, ms⟩ = ((stOf (l.take j)).pre ⟨pl, kd, ms⟩).set pl (x + 1) := by rw [hx]; rfl
            have r4 : Row8 (w3.setCell ⟨gc, pl, none⟩ (.int .i64 (x + 1))) (wr.heap.size + 1) (.slice (some ⟨gc, 0, none⟩) 8 capc) ((stOf (l.take j)).clk ⟨pl, kd, ms⟩) := by
              rw [hclk]; have := row_set (i := pl) HR3.out (by rw [ints_length]; omega) (.int .i64 (x + 1)); rw [ints_set] at this; exact this
            have r5 : Row8 w5 (wr.heap.size + 1) (.slice (some ⟨gc, 0, none⟩) 8 capc) ((stOf (l.take j)).clk ⟨pl, kd, ms⟩) := by
              rw [hw5]; exact own_upd r4 ((Upd.refl [A] _).setCell (.inl (by simp)) _) (fun k hk => by cases hk; simpa using hgA)
            have a5 : w5.heap[A]? = some (.cells (cs.setIfInBounds pl (.slice (some ⟨gc, 0, none⟩) 8 capc)) 74) := by rw [hw5]; exact blk_set (hA4 _) pl _
            have u5' : Upd [A] wr w5 := by
              rw [hw5]
              exact ((((Upd.refl [A] wr).alloc (.cells #[.int .i64 (pl : Int), .int .i64 (kd : Int), .int .i64 (ms : Int)] 31)).trans HU3.out (by simp)).setCell (.inr (by show wr.heap.size ≤ gc; have := HGc.out; omega)) _).setCell (.inl (by simp)) _
            have m5 : IsMap w5 Q mm := HM.out.upd u5' (by simpa using (HM.out.ne_cells HB.out))
            have R5 := hid r5
            have A5 := hid a5
            have U5 := hid u5'
            have M5 := hid m5
            clear r4 r5 a5 u5' m5 hclk hE3 hA3 hE4 hE5 hA4 hua hple hl8 hc8 hf8 hx
            have HW5 := hid hw5
            clear hw5
            go_wp2_with fail
            rw [← HW5.out]
            have R6 := R5
            have A6 := A5
            have U6 : Hid (Upd [A, Q] wr w5) := U5.out.mono (by simp)
            have M6 := M5
            obtain ⟨w6, hw6⟩ : ∃ w6, w6 = w5 := ⟨_, rfl⟩
            rw [← hw6] at R6 A6 U6 M6 ⊢
            clear hw6
            refine (clone8 R6.out).mono ?_
            rintro e w6b ⟨gr, capr, rfl, hrow, hgr, hu⟩
            have RR := hid hrow
            have U6b := hid hu
            have GR := hid hgr
            clear hrow hu hgr
            obtain ⟨i22, hi, hz0, hz1, hz2⟩ := info_parts info22
            have HI := hid hi
            have I0 := hid hz0
            have I1 := hid hz1
            have I2 := hid hz2
            clear hi hz0 hz1 hz2
            have O6 : Hid (w6.ownsRow w.heap.size 22 1 u8 j vs) := own_upd HO.out U6.out (fun k hk => by
              have a := own_cells_ne HO.out HB.out (by decide) k hk
              have b := own_map_ne HO.out HM.out k hk
              simp [a, b])
            have O6b : Hid (w6b.ownsRow w.heap.size 22 1 u8 j vs) := own_upd O6.out U6b.out (fun _ _ => by simp)
            go_wp2_with (first | (at_builtin; refine wpList_app (W := w6b) rfl (.tmp 63) (.tmp 66) 37 rfl w.heap.size 22 i22 _ 1 24 Try.underlying37 HI.out I0.out I1.out I2.out rfl (by decide) u8 j vs rfl O6b.out [.slice (some ⟨gr, 0, none⟩) 8 capr] 22 rfl rfl (by intro u hu; simp at hu; subst hu; rfl) (by omega) (by omega) (Nat.le_trans (Nat.le_trans Hu.out.size U6.out.size) U6b.out.size) ?_; intro v8' w7 ho2 hu2 hl2; have HO2 := hid ho2; have HU2 := hid hu2; clear ho2 hu2 hl2))
            go_roundg (n - (j + 1))
            case measure => have := Hj.out; omega
            case rel =>
              have ht := take_succ l j (by rw [← HN.out]; exact hj)
              rw [← HE.out] at ht
              have hst : stOf (l.take (j + 1)) = (stOf (l.take j)).step ⟨pl, kd, ms⟩ := by rw [ht, stOf_snoc]
              have hca : clockAt l j = (stOf (l.take j)).clk ⟨pl, kd, ms⟩ := by unfold clockAt; rw [← HE.out]
              have u67 : Upd u8.ownBlock.toList w6 w7 := U6b.out.mono (by simp) |>.trans HU2.out (fun t ht => .inl ht)
              have keep : ∀ {B : Nat} {v : Value} {xs : List Int}, Row8 w6 B v xs → Row8 w7 B v xs := fun h => own_upd h u67 (fun k hk => by
                intro hm
                cases e : u8.ownBlock with
                | none => rw [e] at hm; simp at hm
                | some k' => rw [e] at hm; simp at hm; exact own_own_ne h O6.out (by decide) k hk k' e hm)
              have keep0 : ∀ {v : Value} {xs : List Int}, Row8 wr w.heap.size v xs → Row8 w7 w.heap.size v xs := fun h => keep (own_upd h U6.out (fun k hk => by
                have a := own_cells_ne h HB.out (by decide) k hk
                have b := own_map_ne h HM.out k hk
                simp [a, b]))
              have hAb : A ∉ u8.ownBlock.toList := by
                intro hm
                cases e : u8.ownBlock with
                | none => rw [e] at hm; simp at hm
                | some k' => rw [e] at hm; simp at hm; exact own_cells_ne HO.out HB.out (by decide) k' e hm.symm
              have hQb : Q ∉ u8.ownBlock.toList := by
                intro hm
                cases e : u8.ownBlock with
                | none => rw [e] at hm; simp at hm
                | some k' => rw [e] at hm; simp at hm; exact own_map_ne HO.out HM.out k' e hm.symm
              have ww : w.heap.size ≤ wr.heap.size := Hu.out.size
              have rc : Row8 w7 w.heap.size (.slice (some ⟨gc, 0, none⟩) 8 capc) ((stOf (l.take j)).clk ⟨pl, kd, ms⟩) := (keep R6.out).mono (by omega)
              refine ⟨j + 1, (vs ++ [Value.slice (some (⟨gr, 0, none⟩ : Addr)) 8 capr] : List Value), mm, by go_num, by show _ = _; omega, ⟨_, u67.blk A6.out hAb, by simpa using HSZ.out, fun p hp => ?_⟩, M6.out.upd u67 hQb, ?_, HO2.out, ?_, ?_⟩
              · rw [hst]
                by_cases hpp : pl = p
                · subst hpp
                  refine ⟨_, by rw [Array.getElem?_setIfInBounds_self_of_lt (by rw [HSZ.out]; exact hp)], ?_⟩
                  show Row8 _ _ _ (if pl = pl then _ else _)
                  rw [if_pos rfl]; exact rc
                · obtain ⟨v, hv, h8⟩ := HR.out p hp
                  refine ⟨v, by rw [Array.getElem?_setIfInBounds_ne hpp]; exact hv, ?_⟩
                  show Row8 _ _ _ (if p = pl then _ else _)
                  rw [if_neg (Ne.symm hpp)]; exact keep0 h8
              · rw [hst]
                refine hid (fun m hm => ?_)
                have hm' : m ∈ sends (l.take j) := by rw [ht, sends_snoc, if_neg (by show ¬ kd = 2; omega)] at hm; exact hm
                obtain ⟨v, hv, h8⟩ := HW.out m hm'
                refine ⟨v, hv, ?_⟩
                show Row8 _ _ _ (if kd = 2 ∧ m = ms then _ else _)
                rw [if_neg (by omega)]; exact keep0 h8
              · refine hid (fun i hi => ?_)
                by_cases hij : i = j
                · subst hij
                  have hvl : vs.length = i := by have := HO.out.1; omega
                  refine ⟨_, by rw [List.getElem?_append_right (by omega), hvl, Nat.sub_self]; rfl, ?_⟩
                  rw [hca]
                  exact Row8.mono (own_upd RR.out HU2.out (fun k hk => by
                    intro hm
                    cases e : u8.ownBlock with
                    | none => rw [e] at hm; simp at hm
                    | some k' => rw [e] at hm; simp at hm; exact own_own_ne RR.out O6b.out (by decide) k hk k' e hm)) (Nat.le_trans ww U6.out.size)
                · obtain ⟨v, hv, h8⟩ := HC.out i (by omega)
                  have hvl : vs.length = j := by have := HO.out.1; omega
                  exact ⟨v, by rw [List.getElem?_append_left (by omega)]; exact hv, keep0 h8⟩
              · have a : Upd [A, Q] w w6 := (Hu.out.mono (by simp)).trans U6.out (fun t ht => .inl ht)
                have b := a.trans u67 (T := u8.ownBlock.toList) (fun t ht => .inr (by
                  cases e : u8.ownBlock with
                  | none => rw [e] at ht; simp at ht
                  | some k' => rw [e] at ht; simp at ht; subst ht; exact own_ge HO.out _ e))
                exact b.mono (fun t ht => .inr (by simp at ht; rcases ht with rfl | rfl; exact HAw.out; exact QW.out))
        · go_wp2_with fail
          go_ret2
          have hjn : j = n := by have := Hj.out; omega
          subst hjn
          exact ⟨_, vs, rfl, HO.out, HC.out, Hu.out⟩
end Go.Proofs.Ytcdladnbcamgjaa.CW
