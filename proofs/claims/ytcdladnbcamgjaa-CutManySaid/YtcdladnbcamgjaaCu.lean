/- Cuts of a history: blocks of cells; the walks of cut.counts, cut.inside, cut.whole and cut.check. -/
import Derived.Test.YtcdladnbcamgjaaTh
import Derived.Deep.RegionWith
import Derived.BigRegion
import Derived.BigQuiet
import Derived.Deep.QuietTactic
import Derived.StillTailTactics
namespace Go.Proofs.Ytcdladnbcamgjaa.Cu
open Go Go.RowKit Go.Proofs.Ytcdladnbcamgjaa.K Go.Proofs.Ytcdladnbcamgjaa.M Go.Proofs.Ytcdladnbcamgjaa.Ev Go.Proofs.Ytcdladnbcamgjaa.Ck Go.Proofs.Ytcdladnbcamgjaa.O Go.Proofs.Ytcdladnbcamgjaa.CL Go.Proofs.Ytcdladnbcamgjaa.CW Go.Proofs.Ytcdladnbcamgjaa.Th

/-- A block of n cells. -/
def Arr (w : World) (C : Nat) (t : TypeId) (n : Nat) (f : Nat → Value) : Prop := ∃ cs : Array Value, w.heap[C]? = some (.cells cs t (0, 0)) ∧ n ≤ cs.size ∧ ∀ z, z < n → cs[z]? = some (f z)
section
variable {w w' : World} {C : Nat} {t : TypeId} {n : Nat} {f : Nat → Value}
theorem Arr.cell (h : Arr w C t n f) {z : Nat} (hz : z < n) : w.cell? ⟨C, z, none⟩ = some (f z) := by
  obtain ⟨cs, hb, _, hc⟩ := h; exact (blk_cell hb z).trans (hc z hz)
theorem Arr.val (h : Arr w C t n f) {z : Nat} (hz : z < n) {v : Value} (he : f z = v) : w.cell? ⟨C, z, none⟩ = some v := by rw [← he]; exact h.cell hz
theorem Arr.fro (h : Arr w C t n f) (z : Nat) : w.frozen? ⟨C, z, none⟩ = false := by
  obtain ⟨cs, hb, _, hc⟩ := h; exact blk_frozen hb z
theorem Arr.set (h : Arr w C t n f) (i : Nat) (v : Value) : Arr (w.setCell ⟨C, i, none⟩ v) C t n (fun z => if z = i then v else f z) := by
  obtain ⟨cs, hb, hs, hc⟩ := h
  refine ⟨_, blk_set hb i _, by simpa using hs, fun z hz => ?_⟩
  by_cases e : z = i
  · subst e; rw [Array.getElem?_setIfInBounds_self_of_lt (by omega)]; simp
  · rw [Array.getElem?_setIfInBounds_ne (Ne.symm e), hc z hz]; simp [e]
theorem Arr.far (h : Arr w C t n f) {p : Addr} (hp : C ≠ p.block) (v : Value) : Arr (w.setCell p v) C t n f := by
  obtain ⟨cs, hb, hs, hc⟩ := h; exact ⟨cs, blk_far hb hp v, hs, hc⟩
theorem Arr.upd {S : List Nat} (h : Arr w C t n f) (u : Upd S w w') (hs : C ∉ S) : Arr w' C t n f := by
  obtain ⟨cs, hb, hz, hc⟩ := h; exact ⟨cs, u.blk hb hs, hz, hc⟩
theorem Arr.alloc (h : Arr w C t n f) (o : Obj) : Arr (w.alloc o) C t n f := by
  obtain ⟨cs, hb, hs, hc⟩ := h; exact ⟨cs, blk_alloc hb o, hs, hc⟩
theorem Arr.lt (h : Arr w C t n f) : C < w.heap.size := by obtain ⟨cs, hb, hs, hc⟩ := h; exact K.blk_lt hb
theorem Arr.congr {g : Nat → Value} (h : Arr w C t n f) (hg : ∀ z, z < n → g z = f z) : Arr w C t n g := by
  obtain ⟨cs, hb, hs, hc⟩ := h; exact ⟨cs, hb, hs, fun z hz => by rw [hc z hz, hg z hz]⟩
theorem Arr.ne {t' : TypeId} {n' : Nat} {C' : Nat} {f' : Nat → Value} (h : Arr w C t n f) (h' : Arr w C' t' n' f') (hne : t ≠ t') : C ≠ C' := by
  obtain ⟨cs, hb, _⟩ := h; obtain ⟨cs', hb', _⟩ := h'; exact blk_ne hb hb' hne
theorem arr_new (w : World) (vs : List Value) (t : TypeId) (n : Nat) (f : Nat → Value) (hn : vs.length = n) (hf : ∀ z, z < n → vs[z]? = some (f z)) : Arr (w.alloc (.cells vs.toArray t)) w.heap.size t n f :=
  ⟨_, blk_new w _, by simp [hn], fun z hz => by simpa using hf z hz⟩
theorem Arr.row {xs : List Int} (h : Arr w C t n (fun z => .int .i64 (xs.getD z 0))) (hn : xs.length = n) : IntRow w (some ⟨C, 0, none⟩) xs := fun i hi => by
  refine ⟨_, rfl, ?_⟩
  have e : (⟨C, 0, none⟩ : Addr).add i = ⟨C, i, none⟩ := by unfold Addr.add; split <;> simp_all
  rw [e]; exact h.cell (by omega)
end
/-- A region that only reads ahead of its last operations: one walk, and those last ones in their place. -/
theorem region_tail {P : Program} {id : Nat} {Q : Exit → Act → World → Prop} {a : Act} {w : World} {l : List Oper} (n : Nat) (hm : P.follows .mixedOrders = true) (hB : Region.lexTailB .any l.toArray n = true)
    (h : wpStill P l.toArray w.drew (fun a' => wpList P l.toArray Q (l.drop n) a' w.drew) (l.take n) a) : (Code.region id l.toArray true).wp P Q a w := wp_region_still_tail n hm hB h
theorem add0 (C i : Nat) : (⟨C, 0, none⟩ : Addr).add i = ⟨C, i, none⟩ := by unfold Addr.add; split <;> simp_all
theorem IntRow.arr {w : World} {C : Nat} {xs : List Int} (h : IntRow w (some ⟨C, 0, none⟩) xs) {i : Nat} (hi : i < xs.length) : w.cell? ⟨C, i, none⟩ = some (.int .i64 (xs.getD i 0)) := by
  obtain ⟨x, e, hc⟩ := h i hi
  cases e
  rw [add0] at hc; exact hc
theorem make8 : ∀ w, (Instr.makeSlice 22 (.int .i64 8) (.int .i64 8)).run Try.prog w = .ok (.slice (some ⟨w.heap.size, 0, none⟩) 8 8) (w.alloc (.cells (ints zero8).toArray 3)) := fun w => by
  obtain ⟨i0, hi, hz0, hz1, hz2⟩ := info_parts CL.info3
  have := run_make (P := Try.prog) w 22 3 i0 _ Try.underlying22 hi hz0 .i64 .i64 8 8 (by omega) (by omega) (by rw [hz2]; omega) (by omega)
  rw [this, hz1]
  have e : madeCells (Value.cells (.int .i64 0)) (Int.toNat 8 * 1) = (ints zero8).toArray := by
    apply Array.ext'
    rw [show (Value.int .i64 0).cells = #[.int .i64 0] from rfl, toList_madeCells_one]
    simp [ints, zero8]
  rw [e]; rfl
theorem info4 : (Try.prog.info? 4).map (fun i => (i.zero, i.size, i.bytes)) = some (some (.bool false), 1, 1) := by kernel_rfl
theorem makeB (n : Nat) (hn : n ≤ 200) : ∀ w, (Instr.makeSlice 33 (.int .i64 (n : Int)) (.int .i64 (n : Int))).run Try.prog w = .ok (.slice (some ⟨w.heap.size, 0, none⟩) n n) (w.alloc (.cells (List.replicate n (.bool false)).toArray 4)) := fun w => by
  obtain ⟨i4, h4, hz0, hz1, hz2⟩ := info_parts info4
  have := run_make (P := Try.prog) w 33 4 i4 _ Try.underlying33 h4 hz0 .i64 .i64 (n : Int) (n : Int) (by omega) (by omega) (by rw [hz2]; omega) (by omega)
  rw [this, Int.toNat_natCast, hz1, Nat.mul_one]
  have e : madeCells (Value.bool false).cells n = (List.replicate n (Value.bool false)).toArray := by
    apply Array.ext'
    rw [show (Value.bool false).cells = #[.bool false] from rfl, toList_madeCells_one]
  rw [e]

theorem ints_zero_get (z : Nat) (hz : z < 8) : (ints zero8)[z]? = some (.int .i64 0) := by
  rw [ints_get _ _ (by show z < 8; exact hz), zero_get]

theorem cnt_le (l : List Ev) (p : Nat) : ∀ j, cnt l p j ≤ j
  | 0 => Nat.le_refl _
  | j + 1 => by have := cnt_le l p j; simp only [cnt]; split <;> omega

set_option maxHeartbeats 4000000 in
set_option maxRecDepth 100000 in
theorem counts_any (a : Option Addr) (cap : Nat) (l : List Ev) (w : World) (hx : EvRow w a l) (hn : l.length ≤ 200) (hv : Valid l) :
    Calls Try.prog 62 #[.slice a l.length cap] w fun e w' => ∃ C, e = .returned (.slice (some ⟨C, 0, none⟩) 8 8) ∧ w.heap.size ≤ C ∧ Arr w' C 3 8 (fun p => .int .i64 ((cnt l p l.length : Nat) : Int)) ∧ Upd [] w w' := by
  obtain ⟨n, hnl⟩ : ∃ n, n = l.length := ⟨_, rfl⟩
  rw [← hnl] at hn ⊢
  have HX := hid hx
  have HN := hid hnl
  have HV := hid hv
  clear hx hnl hv
  have hmk := make8
  obtain ⟨C, hC⟩ : ∃ C, C = w.heap.size := ⟨_, rfl⟩
  have A0 : Hid (Arr (w.alloc (.cells (ints zero8).toArray 3)) C 3 8 (fun p => .int .i64 ((cnt l p 0 : Nat) : Int))) := by
    rw [hC]; exact arr_new w _ 3 8 _ rfl (fun z hz => ints_zero_get z hz)
  have U0 : Hid (Upd [] w (w.alloc (.cells (ints zero8).toArray 3))) := (Upd.refl _ _).alloc _
  have HC := hid hC
  go_enter Try.func62, Try.ntmps62
  go_wp2_with fail
  rw [← hC]
  clear hC
  go_loopg [9] n (fun d v9 wr => ∃ (i : Nat), v9 = .int .i64 (i : Int) ∧ i ≤ n ∧ Hid (i + d = n) ∧ Hid (Arr wr C 3 8 (fun p => .int .i64 ((cnt l p i : Nat) : Int))) ∧ Hid (Upd [] w wr))
  case atStart => exact ⟨0, rfl, by omega, by show _ = _; omega, A0.out, U0.out⟩
  case round =>
    clear A0 U0
    obtain ⟨i, rfl, hin, Hi, Ha, Hu⟩ := hrel
    by_cases hi : i < n
    · obtain ⟨g, rfl, c0, c1, c2⟩ := HX.out.upd Hu.out i (by rw [← HN.out]; exact hi)
      have hp8 := (HV.out i (by rw [← HN.out]; exact hi)).p8
      obtain ⟨⟨pl, kd, ms⟩, hev⟩ : ∃ ev, ev = l.getD i noEv := ⟨_, rfl⟩
      rw [← hev] at c0 c1 c2 hp8
      simp only at c0 c1 c2 hp8
      have HE := hid hev
      clear hev
      obtain ⟨x, hx⟩ : ∃ x, x = cnt l pl i := ⟨_, rfl⟩
      have hxl : x ≤ 200 := by have := cnt_le l pl i; omega
      have q : ∀ o, (wr.alloc o).cell? ⟨C, pl, none⟩ = some (.int .i64 (x : Int)) := fun o => by rw [hx]; exact (Ha.out.alloc o).cell hp8
      have qf : ∀ o, (wr.alloc o).frozen? ⟨C, pl, none⟩ = false := fun o => (Ha.out.alloc o).fro pl
      have HXX := hid hx
      clear hx
      go_wp2_with fail
      go_roundg (n - (i + 1))
      case measure => have := Hi.out; omega
      case rel =>
        refine ⟨i + 1, by go_num, by omega, by show _ = _; omega, ?_, (Hu.out.alloc _).setCell (.inr (by show w.heap.size ≤ C; rw [HC.out]; exact Nat.le_refl _)) _⟩
        refine ((Ha.out.alloc _).set pl _).congr (fun z hz => ?_)
        have ep : (ev l i).place = pl := by show (l.getD i noEv).place = pl; rw [← HE.out]
        simp only [cnt, ep]
        by_cases e : z = pl
        · subst e; rw [if_pos rfl, if_pos rfl, ← HXX.out]; go_num
        · rw [if_neg e, if_neg (fun q => e q.symm)]; rfl
    · obtain rfl : i = n := by omega
      go_wp2_with fail
      go_ret
      exact ⟨C, rfl, by rw [HC.out]; exact Nat.le_refl _, Ha.out, Hu.out⟩

/-- Is an event in a cut? -/
def inC (l : List Ev) (c : List Int) (k : Nat) : Bool := decide (((cnt l (ev l k).place (k + 1) : Nat) : Int) ≤ c.getD (ev l k).place 0)

set_option maxHeartbeats 4000000 in
set_option maxRecDepth 100000 in
theorem inside_any (a : Option Addr) (cap : Nat) (l : List Ev) (b : Nat) (cc : Nat) (c : List Int) (w : World) (hx : EvRow w a l) (hn : l.length ≤ 200) (hv : Valid l) (hc : IntRow w (some ⟨b, 0, none⟩) c) (hcl : c.length = 8) :
    Calls Try.prog 64 #[.slice a l.length cap, .slice (some ⟨b, 0, none⟩) 8 cc] w fun e w' => ∃ C, e = .returned (.slice (some ⟨C, 0, none⟩) l.length l.length) ∧ w.heap.size ≤ C ∧ Arr w' C 4 l.length (fun k => .bool (inC l c k)) ∧ Upd [] w w' := by
  obtain ⟨n, hnl⟩ : ∃ n, n = l.length := ⟨_, rfl⟩
  rw [← hnl] at hn ⊢
  have HX := hid hx
  have HN := hid hnl
  have HV := hid hv
  have HCR := hid hc
  have HCL := hid hcl
  clear hx hnl hv hc hcl
  have hmk := makeB n hn
  obtain ⟨A, hA⟩ : ∃ A, A = w.heap.size := ⟨_, rfl⟩
  obtain ⟨C, hC⟩ : ∃ C, C = w.heap.size + 1 := ⟨_, rfl⟩
  obtain ⟨W0, hW0⟩ : ∃ W0, W0 = (w.alloc (.cells #[.int .i64 0, .int .i64 0, .int .i64 0, .int .i64 0, .int .i64 0, .int .i64 0, .int .i64 0, .int .i64 0] 77)).alloc (.cells (Array.replicate n (.bool false)) 4) := ⟨_, rfl⟩
  have A0 : Hid (Arr W0 A 77 8 (fun p => .int .i64 ((cnt l p 0 : Nat) : Int))) := by
    rw [hW0, hA]
    refine Arr.alloc (arr_new w [.int .i64 0, .int .i64 0, .int .i64 0, .int .i64 0, .int .i64 0, .int .i64 0, .int .i64 0, .int .i64 0] 77 8 _ rfl (fun z hz => ?_)) _
    match z, hz with
    | 0, _ => rfl
    | 1, _ => rfl
    | 2, _ => rfl
    | 3, _ => rfl
    | 4, _ => rfl
    | 5, _ => rfl
    | 6, _ => rfl
    | 7, _ => rfl
  have C0 : Hid (Arr W0 C 4 n (fun k => .bool (if k < 0 then inC l c k else false))) := by
    rw [hW0, hC]
    have := arr_new (w.alloc (.cells #[.int .i64 0, .int .i64 0, .int .i64 0, .int .i64 0, .int .i64 0, .int .i64 0, .int .i64 0, .int .i64 0] 77)) (List.replicate n (.bool false)) 4 n (fun k => .bool (if k < 0 then inC l c k else false)) (by simp) (fun z hz => by simp [hz])
    rw [World.size_alloc, List.toArray_replicate] at this
    exact this
  have U0 : Hid (Upd [] w W0) := by rw [hW0]; exact ((Upd.refl _ _).alloc _).alloc _
  have HAw := hid (show w.heap.size ≤ A by omega)
  have HCw := hid (show w.heap.size ≤ C by omega)
  have HAC := hid (show A ≠ C by omega)
  have HA := hid hA
  have HC := hid hC
  go_enter Try.func64, Try.ntmps64
  go_wp2_with fail
  rw [← hC, ← hA, ← hW0]
  clear hA hC hW0
  go_loopg [14] n (fun d v14 wr => ∃ (i : Nat), v14 = .int .i64 (i : Int) ∧ i ≤ n ∧ Hid (i + d = n) ∧ Hid (Arr wr A 77 8 (fun p => .int .i64 ((cnt l p i : Nat) : Int))) ∧ Hid (Arr wr C 4 n (fun k => .bool (if k < i then inC l c k else false))) ∧ Hid (Upd [] w wr))
  case atStart => exact ⟨0, rfl, by omega, by show _ = _; omega, A0.out, C0.out, U0.out⟩
  case round =>
    clear A0 C0 U0 hmk
    obtain ⟨i, rfl, hin, Hi, Ha, Hc, Hu⟩ := hrel
    by_cases hi : i < n
    · obtain ⟨g, rfl, c0, c1, c2⟩ := HX.out.upd Hu.out i (by rw [← HN.out]; exact hi)
      have hp8 := (HV.out i (by rw [← HN.out]; exact hi)).p8
      obtain ⟨⟨pl, kd, ms⟩, hev⟩ : ∃ ev, ev = l.getD i noEv := ⟨_, rfl⟩
      rw [← hev] at c0 c1 c2 hp8
      simp only at c0 c1 c2 hp8
      have HE := hid hev
      clear hev
      obtain ⟨x, hx⟩ : ∃ x, x = cnt l pl i := ⟨_, rfl⟩
      have hxl : x ≤ 200 := by have := cnt_le l pl i; omega
      obtain ⟨y, hy⟩ : ∃ y, y = c.getD pl 0 := ⟨_, rfl⟩
      have q : ∀ o, (wr.alloc o).cell? ⟨A, pl, none⟩ = some (.int .i64 (x : Int)) := fun o => by rw [hx]; exact (Ha.out.alloc o).cell hp8
      have qf : ∀ o, (wr.alloc o).frozen? ⟨A, pl, none⟩ = false := fun o => (Ha.out.alloc o).fro pl
      have hAl := Ha.out.lt
      have hCl := Hc.out.lt
      have hbl : b < wr.heap.size := World.block_lt_of_cell? wr ⟨b, pl, none⟩ (IntRow.arr (HCR.out.upd Hu.out) (by rw [HCL.out]; exact hp8))
      have q2 : ∀ v, (wr.setCell ⟨A, pl, none⟩ v).cell? ⟨A, pl, none⟩ = some v := fun v => by
        have := (Ha.out.set pl v).cell hp8
        rw [if_pos rfl] at this; exact this
      have q4 : ∀ v, (wr.setCell ⟨A, pl, none⟩ v).cell? ⟨b, pl, none⟩ = some (.int .i64 y) := fun v => by
        rw [hy]
        exact IntRow.arr (HCR.out.upd (Hu.out.setCell (.inr HAw.out) v)) (by rw [HCL.out]; exact hp8)
      have q5 : ∀ v, (wr.setCell ⟨A, pl, none⟩ v).cell? ⟨C, i, none⟩ = some (.bool (if i < i then inC l c i else false)) := fun v => ((Hc.out.far (Ne.symm HAC.out) v).cell hi)
      have q6 : ∀ v, (wr.setCell ⟨A, pl, none⟩ v).frozen? ⟨C, i, none⟩ = false := fun v => ((Hc.out.far (Ne.symm HAC.out) v).fro i)
      have HXX := hid hx
      have HYY := hid hy
      clear hx hy
      have hp8' : (pl : Int) < 8 := by omega
      have hi' : (i : Int) < (n : Int) := by omega
      go_wp2_with fail
      refine region_tail 13 (by kernel_rfl) (by kernel_rfl) ?_
      simp only [List.take_succ_cons, List.take_zero, List.drop_succ_cons, List.drop_zero]
      repeat still_step
      refine wpStill_nil ?_
      go_wp2_with fail
      go_roundg (n - (i + 1))
      case measure => have := Hi.out; omega
      case rel =>
        have ep : (ev l i).place = pl := by show (l.getD i noEv).place = pl; rw [← HE.out]
        refine ⟨i + 1, by go_num, by omega, by show _ = _; omega, ?_, ?_, (((Hu.out.setCell (.inr HAw.out) _).setCell (.inr HCw.out) _).alloc _).drew⟩
        · refine ((((Ha.out.set pl _).far HAC.out _)).alloc _).congr (fun z hz => ?_)
          simp only [cnt, ep]
          by_cases e : z = pl
          · subst e; rw [if_pos rfl, if_pos rfl, ← HXX.out]; go_num
          · rw [if_neg e, if_neg (fun q => e q.symm)]; rfl
        · refine ((((Hc.out.far (Ne.symm HAC.out) _).set i _)).alloc _).congr (fun z hz => ?_)
          by_cases e : z = i
          · subst e
            rw [if_pos rfl, if_pos (by omega)]
            unfold inC
            rw [ep]
            simp only [cnt, ep, if_true, ← HXX.out, ← HYY.out]
            simp
          · rw [if_neg e]
            by_cases e2 : z < i
            · rw [if_pos e2, if_pos (by omega)]
            · rw [if_neg e2, if_neg (by omega)]
    · obtain rfl : i = n := by omega
      go_wp2_with fail
      go_ret
      exact ⟨C, rfl, HCw.out, Hc.out.congr (fun z hz => by rw [if_pos hz]), Hu.out⟩

theorem IsMap.drew {w : World} {b : Nat} {m : Mp} (h : IsMap w b m) : IsMap w.drew b m := h

/-- All that was taken in the cut was sent in it. -/
def Whole (l : List Ev) (c : List Int) : Prop := ∀ s k, s < k → k < l.length → (ev l s).kind = 2 → (ev l k).kind = 3 → (ev l s).msg = (ev l k).msg → inC l c k = true → inC l c s = true

set_option maxHeartbeats 4000000 in
set_option maxRecDepth 100000 in
theorem whole_any (a : Option Addr) (cap : Nat) (l : List Ev) (b : Nat) (cc : Nat) (c : List Int) (w : World) (hx : EvRow w a l) (hn : l.length ≤ 200) (hv : Valid l) (hc : IntRow w (some ⟨b, 0, none⟩) c) (hcl : c.length = 8) :
    Calls Try.prog 63 #[.slice a l.length cap, .slice (some ⟨b, 0, none⟩) 8 cc] w fun e w' => ∃ B : Bool, e = .returned (.bool B) ∧ Hid (B = true ↔ Whole l c) ∧ Upd [] w w' := by
  have ins := inside_any a cap l b cc c w hx hn hv hc hcl
  obtain ⟨n, hnl⟩ : ∃ n, n = l.length := ⟨_, rfl⟩
  rw [← hnl] at hn ins ⊢
  have HX := hid hx
  have HN := hid hnl
  have HV := hid hv
  clear hx hnl hv hc hcl
  have hmm := @run_makeMap Try.prog
  go_enter Try.func63, Try.ntmps63
  go_wp2_with fail
  refine ins.mono ?_
  rintro e w1 ⟨C, rfl, hCw, ha, hu⟩
  obtain ⟨Q, hQ⟩ : ∃ Q, Q = w1.heap.size := ⟨_, rfl⟩
  have QW := hid (show w.heap.size ≤ Q by rw [hQ]; exact hu.size)
  have hCQ := hid (show C ≠ Q by rw [hQ]; exact Nat.ne_of_lt ha.lt)
  have mp : IsMap (w1.alloc (.map #[] 0)) Q [] := by rw [hQ]; exact IsMap.made w1
  have MP := hid mp
  have A0 : Hid (Arr (w1.alloc (.map #[] 0)) C 4 n (fun k => .bool (inC l c k))) := ha.alloc _
  have U0 : Hid (Upd [] w (w1.alloc (.map #[] 0))) := hu.alloc _
  clear ins mp ha hu hCw
  have HQ := hid hQ
  go_wp2_with fail
  rw [← hQ]
  clear hQ hmm
  go_loopg [15] n (fun d v15 wr => ∃ (i : Nat) (mm : Mp) (f : Nat → Bool), v15 = .int .i64 (i : Int) ∧ i ≤ n ∧ Hid (i + d = n) ∧ Hid (IsMap wr Q mm) ∧ Hid (∀ m : Nat, (mlook mm (m : Int)).getD (.bool false) = .bool (f m)) ∧
    Hid (∀ m, f m = true ↔ ∃ s, s < i ∧ (ev l s).kind = 2 ∧ (ev l s).msg = m ∧ inC l c s = true) ∧
    Hid (∀ s k, s < k → k < i → (ev l s).kind = 2 → (ev l k).kind = 3 → (ev l s).msg = (ev l k).msg → inC l c k = true → inC l c s = true) ∧ Hid (Arr wr C 4 n (fun k => .bool (inC l c k))) ∧ Hid (Upd [] w wr))
  case atStart => exact ⟨0, [], fun _ => false, rfl, by omega, by show _ = _; omega, MP.out, hid (fun m => rfl), hid (fun m => ⟨fun h => (by cases h), fun ⟨s, h, _⟩ => absurd h (Nat.not_lt_zero s)⟩), hid (fun s k _ h => (by omega)), A0.out, U0.out⟩
  case round =>
    clear A0 U0 MP
    obtain ⟨i, mm, f, rfl, hin, Hi, HM, HF, HS, HW, Ha, Hu⟩ := hrel
    by_cases hi : i < n
    · obtain ⟨g, rfl, c0, c1, c2⟩ := HX.out.upd Hu.out i (by rw [← HN.out]; exact hi)
      obtain ⟨⟨pl, kd, ms⟩, hev⟩ : ∃ ev, ev = l.getD i noEv := ⟨_, rfl⟩
      rw [← hev] at c0 c1 c2
      simp only at c0 c1 c2
      have HE := hid hev
      clear hev
      obtain ⟨t, ht⟩ : ∃ t, t = inC l c i := ⟨_, rfl⟩
      have q : ∀ o, (wr.alloc o).cell? ⟨C, i, none⟩ = some (.bool t) := fun o => by rw [ht]; exact (Ha.out.alloc o).cell hi
      have HT := hid ht
      clear ht
      by_cases kd2 : kd = 2
      · have b2 : ((kd : Int) == 2) = true := by rw [beq_iff_eq]; omega
        have b3 : ((kd : Int) == 3) = false := by rw [beq_eq_false_iff_ne]; omega
        have KD2 := hid kd2
        clear kd2
        have hi' : (i : Int) < (n : Int) := by omega
        have qe2 : ∀ x y z, (wr.alloc (.cells #[x, y, z] 31)).cell? ⟨wr.heap.size, 2, none⟩ = some z := fun x y z => (blk_cell (blk_new wr _) 2).trans rfl
        go_wp2_with fail
        refine region_tail 7 (by kernel_rfl) (by kernel_rfl) ?_
        simp only [List.take_succ_cons, List.take_zero, List.drop_succ_cons, List.drop_zero]
        repeat still_step
        refine wpStill_nil ?_
        have hEb := hid (show (wr.alloc (.cells #[.int .i64 (pl : Int), .int .i64 (kd : Int), .int .i64 (ms : Int)] 31)).drew.heap[wr.heap.size]? = _ from blk_new wr (.cells #[.int .i64 (pl : Int), .int .i64 (kd : Int), .int .i64 (ms : Int)] 31))
        go_wp2_with (first | (at_mapUpdate; refine wpList_put rfl _ _ _ 86 rfl 3 4 Try.underlying86 Try.underlying3 Q mm rfl (IsMap.drew (HM.out.alloc _)) (ms : Int) (.bool t) rfl rfl ?_; intro w6 hm6 hu6; have M6 := hid hm6; have HU6 := hid hu6; have q1 : w6.cell? ⟨wr.heap.size, 1, none⟩ = some (.int .i64 (kd : Int)) := (blk_cell (HU6.out.blk hEb.out (by simp; have := HM.out.lt; omega)) 1).trans rfl; clear hm6 hu6))
        go_roundg (n - (i + 1))
        case measure => have := Hi.out; omega
        case rel =>
          have ee : ev l i = ⟨pl, kd, ms⟩ := HE.out.symm
          have hAC : Hid (Arr w6 C 4 n (fun k => .bool (inC l c k))) := Arr.upd (w := (wr.alloc (.cells #[.int .i64 (pl : Int), .int .i64 (kd : Int), .int .i64 (ms : Int)] 31)).drew) (Ha.out.alloc _) HU6.out (by simpa using hCQ.out)
          refine ⟨i + 1, _, fun m => if m = ms then t else f m, by go_num, by omega, by show _ = _; omega, M6.out, hid (fun m => ?_), hid (fun m => ?_), hid (fun s k h1 h2 h3 h4 h5 h6 => ?_), hAC.out, (Hu.out.alloc _).drew.trans HU6.out (fun x hx => .inr (by simp at hx; rw [hx]; exact QW.out))⟩
          · show _ = Value.bool (if m = ms then t else f m)
            rw [mlook_put]
            by_cases e : m = ms
            · subst e; simp
            · have : ¬ ((ms : Int) = (m : Int)) := by omega
              rw [if_neg this, if_neg e]; exact HF.out m
          · show (if m = ms then t else f m) = true ↔ _
            by_cases e : m = ms
            · subst e
              rw [if_pos rfl]
              constructor
              · intro h; exact ⟨i, by omega, by rw [ee]; exact KD2.out, by rw [ee], by rw [← HT.out]; exact h⟩
              · rintro ⟨s, h1, h2, h3, h4⟩
                have : s = i := by
                  have := send_one HV.out (a := s) (b := i) (by rw [← HN.out]; omega) (by rw [← HN.out]; omega) h2 (by rw [ee]; exact KD2.out) (by rw [ee]; exact h3)
                  exact this
                subst this
                rw [HT.out]; exact h4
            · rw [if_neg e, HS.out m]
              constructor
              · rintro ⟨s, h1, h⟩; exact ⟨s, by omega, h⟩
              · rintro ⟨s, h1, h2, h3, h4⟩
                refine ⟨s, ?_, h2, h3, h4⟩
                by_cases e2 : s = i
                · subst e2; rw [ee] at h3; exact absurd h3.symm e
                · omega
          · by_cases e2 : k = i
            · subst e2; rw [ee] at h4; simp only at h4; have := KD2.out; omega
            · exact HW.out s k h1 (by omega) h3 h4 h5 h6
      have b2 : ((kd : Int) == 2) = false := by rw [beq_eq_false_iff_ne]; omega
      have ee : Hid (ev l i = ⟨pl, kd, ms⟩) := HE.out.symm
      have keep : Hid (∀ m, f m = true ↔ ∃ s, s < i + 1 ∧ (ev l s).kind = 2 ∧ (ev l s).msg = m ∧ inC l c s = true) := fun m => by
        rw [HS.out m]
        constructor
        · rintro ⟨s, h1, h⟩; exact ⟨s, by omega, h⟩
        · rintro ⟨s, h1, h2, h3, h4⟩
          refine ⟨s, ?_, h2, h3, h4⟩
          by_cases e2 : s = i
          · subst e2; rw [ee.out] at h2; exact absurd h2 kd2
          · omega
      by_cases kd3 : kd = 3
      · have b3 : ((kd : Int) == 3) = true := by rw [beq_iff_eq]; omega
        have KD3 := hid kd3
        clear kd3 kd2
        obtain ⟨fm, hfm⟩ : ∃ fm, fm = f ms := ⟨_, rfl⟩
        have L1 : ∀ o, (Instr.lookup 86 (.map (some Q)) (.int .i64 (ms : Int)) false).run Try.prog (wr.alloc o) = .ok (.bool fm) (wr.alloc o) := fun o => by
          rw [hfm, ← HF.out ms]; exact (run_look (P := Try.prog) (HM.out.alloc o) Try.underlying86 Try.underlying3 (zeroB _) (ms : Int)).1
        have HFM := hid hfm
        clear hfm
        cases t with
        | false =>
          go_wp2_with fail
          go_roundg (n - (i + 1))
          case measure => have := Hi.out; omega
          case rel =>
            refine ⟨i + 1, mm, f, by go_num, by omega, by show _ = _; omega, HM.out.alloc _, HF.out, keep.out, hid (fun s k h1 h2 h3 h4 h5 h6 => ?_), Ha.out.alloc _, Hu.out.alloc _⟩
            by_cases e2 : k = i
            · subst e2; rw [← HT.out] at h6; cases h6
            · exact HW.out s k h1 (by omega) h3 h4 h5 h6
        | true =>
          cases fm with
          | false =>
            go_wp2_with fail
            go_ret
            refine ⟨false, rfl, ⟨fun h => (by cases h), fun h => ?_⟩, Hu.out.alloc _⟩
            have hil : i < l.length := by rw [← HN.out]; exact hi
            have t1 := (HV.out i hil).took1 (by show (ev l i).kind = 3; rw [ee.out]; exact KD3.out)
            obtain ⟨s, h1, h2, h3⟩ := (mem_sends _ _).1 t1
            have h1' : s < i := by simp at h1; omega
            have es : (l.take i).getD s noEv = ev l s := by simp [ev, List.getD_eq_getElem?_getD, h1']
            rw [es] at h2 h3
            have := h s i h1' hil h2 (by rw [ee.out]; exact KD3.out) h3 HT.out.symm
            have : f ms = true := (HS.out ms).2 ⟨s, h1', h2, by rw [h3]; show (ev l i).msg = ms; rw [ee.out], this⟩
            rw [← HFM.out] at this; cases this
          | true =>
            go_wp2_with fail
            go_roundg (n - (i + 1))
            case measure => have := Hi.out; omega
            case rel =>
              refine ⟨i + 1, mm, f, by go_num, by omega, by show _ = _; omega, HM.out.alloc _, HF.out, keep.out, hid (fun s k h1 h2 h3 h4 h5 h6 => ?_), Ha.out.alloc _, Hu.out.alloc _⟩
              by_cases e2 : k = i
              · subst e2
                obtain ⟨s', g1, g2, g3, g4⟩ := (HS.out ms).1 HFM.out.symm
                have e5 : (ev l s).msg = ms := by rw [h5, ee.out]
                have := send_one HV.out (a := s) (b := s') (by rw [← HN.out]; omega) (by rw [← HN.out]; omega) h3 g2 (by rw [e5, g3])
                rw [this]; exact g4
              · exact HW.out s k h1 (by omega) h3 h4 h5 h6
      · have b3 : ((kd : Int) == 3) = false := by rw [beq_eq_false_iff_ne]; omega
        go_wp2_with fail
        go_roundg (n - (i + 1))
        case measure => have := Hi.out; omega
        case rel =>
          refine ⟨i + 1, mm, f, by go_num, by omega, by show _ = _; omega, HM.out.alloc _, HF.out, keep.out, hid (fun s k h1 h2 h3 h4 h5 h6 => ?_), Ha.out.alloc _, Hu.out.alloc _⟩
          by_cases e2 : k = i
          · subst e2; rw [ee.out] at h4; exact absurd h4 kd3
          · exact HW.out s k h1 (by omega) h3 h4 h5 h6
    · obtain rfl : i = n := by omega
      go_wp2_with fail
      go_ret
      refine ⟨true, rfl, ⟨fun _ => ?_, fun _ => rfl⟩, Hu.out⟩
      have := HW.out
      rw [HN.out] at this
      exact this
end Go.Proofs.Ytcdladnbcamgjaa.Cu
