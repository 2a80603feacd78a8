/- The walk of clock.Numbers, and the theory of the numbers: what is ahead has the lesser number. -/
import Derived.Test.YtcdladnbcamgjaaAh
namespace Go.Proofs.Ytcdladnbcamgjaa.Nu
open Go Go.RowKit Go.Proofs.Ytcdladnbcamgjaa.K Go.Proofs.Ytcdladnbcamgjaa.M Go.Proofs.Ytcdladnbcamgjaa.Ev Go.Proofs.Ytcdladnbcamgjaa.Ck Go.Proofs.Ytcdladnbcamgjaa.O Go.Proofs.Ytcdladnbcamgjaa.CL Go.Proofs.Ytcdladnbcamgjaa.CW Go.Proofs.Ytcdladnbcamgjaa.Th

/-! Plain -/
structure NSt where
  now : Nat → Int
  way : Nat → Int
def NSt.start : NSt := ⟨fun _ => 0, fun _ => 0⟩
def NSt.pre (s : NSt) (e : Ev) : Int := if e.kind = 3 then max (s.now e.place) (s.way e.msg) else s.now e.place
def NSt.num (s : NSt) (e : Ev) : Int := s.pre e + 1
def NSt.step (s : NSt) (e : Ev) : NSt := ⟨fun p => if p = e.place then s.num e else s.now p, fun m => if e.kind = 2 ∧ m = e.msg then s.num e else s.way m⟩
def nOf (l : List Ev) : NSt := l.foldl NSt.step NSt.start
theorem nOf_snoc (l : List Ev) (e : Ev) : nOf (l ++ [e]) = (nOf l).step e := by simp [nOf]
def numAt (l : List Ev) (i : Nat) : Int := (nOf (l.take i)).num (l.getD i noEv)
def nums (l : List Ev) (j : Nat) : List Int := (List.range j).map (numAt l)
theorem nums_succ (l : List Ev) (j : Nat) : nums l (j + 1) = nums l j ++ [numAt l j] := by simp [nums, List.range_succ]
theorem nums_length (l : List Ev) (j : Nat) : (nums l j).length = j := by simp [nums]
theorem nums_get (l : List Ev) (j i : Nat) (h : i < j) : (nums l j).getD i 0 = numAt l i := by simp [nums, List.getD_eq_getElem?_getD, h]

theorem n_succ (l : List Ev) (j : Nat) (hj : j < l.length) : nOf (l.take (j + 1)) = (nOf (l.take j)).step (ev l j) := by rw [take_succ l j hj, nOf_snoc]
theorem n_bound (l : List Ev) : ∀ j, j ≤ l.length → (∀ p, 0 ≤ (nOf (l.take j)).now p ∧ (nOf (l.take j)).now p ≤ j) ∧ (∀ m, 0 ≤ (nOf (l.take j)).way m ∧ (nOf (l.take j)).way m ≤ j)
  | 0, _ => by rw [List.take_zero]; exact ⟨fun p => ⟨Int.le_refl _, Int.le_refl _⟩, fun p => ⟨Int.le_refl _, Int.le_refl _⟩⟩
  | j + 1, hj => by
    obtain ⟨h1, h2⟩ := n_bound l j (by omega)
    have hp : 0 ≤ (nOf (l.take j)).pre (ev l j) ∧ (nOf (l.take j)).pre (ev l j) ≤ j := by
      unfold NSt.pre
      have a := h1 (ev l j).place
      have b := h2 (ev l j).msg
      split <;> omega
    have hn : (nOf (l.take j)).num (ev l j) = (nOf (l.take j)).pre (ev l j) + 1 := rfl
    rw [n_succ l j (by omega)]
    refine ⟨fun p => ?_, fun m => ?_⟩
    · show 0 ≤ (if p = _ then _ else _) ∧ (if p = _ then _ else _) ≤ _
      have := h1 p
      split <;> omega
    · show 0 ≤ (if _ ∧ m = _ then _ else _) ∧ (if _ ∧ m = _ then _ else _) ≤ _
      have := h2 m
      split <;> omega

theorem nnow_from (l : List Ev) (q : Nat) : ∀ j, j ≤ l.length → ∀ k, k < j → (ev l k).place = q → ∃ k', k ≤ k' ∧ k' < j ∧ (ev l k').place = q ∧ (nOf (l.take j)).now q = numAt l k'
  | 0, _, k, hk, _ => by omega
  | j + 1, hj, k, hk, hp => by
    have e : (nOf (l.take (j + 1))).now q = if q = (ev l j).place then numAt l j else (nOf (l.take j)).now q := by rw [n_succ l j (by omega)]; rfl
    by_cases hq : q = (ev l j).place
    · exact ⟨j, by omega, by omega, hq.symm, by rw [e, if_pos hq]⟩
    · rw [if_neg hq] at e
      have hkj : k ≠ j := fun x => hq (by rw [← hp, x])
      obtain ⟨k', h1, h2, h3, h4⟩ := nnow_from l q j (by omega) k (by omega) hp
      exact ⟨k', h1, by omega, h3, e.trans h4⟩
theorem nway_from (l : List Ev) (m : Nat) : ∀ j, j ≤ l.length → m ∈ sends (l.take j) → ∃ s, s < j ∧ (ev l s).kind = 2 ∧ (ev l s).msg = m ∧ (nOf (l.take j)).way m = numAt l s
  | 0, _, h => by simp [sends] at h
  | j + 1, hj, h => by
    have e : (nOf (l.take (j + 1))).way m = if (ev l j).kind = 2 ∧ m = (ev l j).msg then numAt l j else (nOf (l.take j)).way m := by rw [n_succ l j (by omega)]; rfl
    by_cases hq : (ev l j).kind = 2 ∧ m = (ev l j).msg
    · exact ⟨j, by omega, hq.1, hq.2.symm, by rw [e, if_pos hq]⟩
    · rw [if_neg hq] at e
      have hm : m ∈ sends (l.take j) := by
        rw [take_succ l j (by omega), sends_snoc] at h
        by_cases h2 : (l.getD j noEv).kind = 2
        · rw [if_pos h2] at h
          rcases List.mem_append.1 h with h | h
          · exact h
          · exact absurd ⟨h2, List.mem_singleton.1 h⟩ hq
        · rw [if_neg h2] at h; exact h
      obtain ⟨s, h1, h2, h3, h4⟩ := nway_from l m j (by omega) hm
      exact ⟨s, by omega, h2, h3, e.trans h4⟩
theorem nstep_lt {l : List Ev} (hv : Valid l) : ∀ b a, Step l a b → numAt l a < numAt l b := by
  intro b
  induction b using Nat.strongRecOn with
  | ind b ih =>
    intro a ⟨hab, hb, hs⟩
    have hn : numAt l b = (nOf (l.take b)).pre (ev l b) + 1 := rfl
    rcases hs with hs | ⟨ka, kb, hm⟩
    · obtain ⟨k', h1, h2, h3, h4⟩ := nnow_from l (ev l b).place b (by omega) a hab hs
      have hp : (nOf (l.take b)).now (ev l b).place ≤ (nOf (l.take b)).pre (ev l b) := by unfold NSt.pre; split <;> omega
      have : numAt l a ≤ numAt l k' := by
        by_cases e : a = k'
        · rw [e]; exact Int.le_refl _
        · exact Int.le_of_lt (ih k' h2 a ⟨by omega, by omega, .inl (hs.trans h3.symm)⟩)
      omega
    · obtain ⟨s, h1, h2, h3, h4⟩ := nway_from l (ev l b).msg b (by omega) ((hv b hb).took1 kb)
      have : s = a := send_one hv (by omega) (by omega) h2 ka (h3.trans hm.symm)
      subst this
      have hp : (nOf (l.take b)).way (ev l b).msg ≤ (nOf (l.take b)).pre (ev l b) := by unfold NSt.pre; rw [if_pos kb]; omega
      omega
theorem nreach {l : List Ev} (hv : Valid l) {i k : Nat} (h : Th.Reach l i k) : i = k ∨ numAt l i < numAt l k := by
  induction h with
  | refl => exact .inl rfl
  | step _ s ih =>
    have := nstep_lt hv _ _ s
    rcases ih with rfl | ih
    · exact .inr this
    · exact .inr (by omega)
theorem ahead_num {l : List Ev} (hv : Valid l) {i k : Nat} (hi : i < l.length) (hk : k < l.length) (h : aheadL l i k = true) : numAt l i < numAt l k := by
  obtain ⟨h1, h2⟩ := (ahead_iff hv hi hk).1 h
  rcases nreach hv h2 with h | h
  · exact absurd h h1
  · exact h

/-! Walk -/
theorem zero3 (w : World) : (zeroValue 3).run Try.prog w = .ok (.int .i64 0) w := by kernel_rfl
/-- Numbers in a map's words. -/
def Nums (m : Mp) (f : Nat → Int) : Prop := ∀ k : Nat, (mlook m (k : Int)).getD (.int .i64 0) = .int .i64 (f k)
theorem Nums.put {m : Mp} {f : Nat → Int} (h : Nums m f) (k : Nat) (x : Int) : Nums (mput m (k : Int) (.int .i64 x)) (fun j => if j = k then x else f j) := fun j => by
  rw [mlook_put]
  by_cases e : (k : Int) = (j : Int)
  · rw [if_pos e]; show _ = Value.int .i64 (if j = k then x else f j); rw [if_pos (by omega)]; rfl
  · rw [if_neg e]; show _ = Value.int .i64 (if j = k then x else f j); rw [if_neg (by omega)]; exact h j

set_option maxHeartbeats 4000000 in
set_option maxRecDepth 100000 in
theorem numbers_any (a : Option Addr) (cap : Nat) (l : List Ev) (w : World) (hx : EvRow w a l) (hlc : l.length ≤ cap) (hc : cap ≤ 9223372036854775807) (hn : l.length ≤ 200) (hv : Valid l) :
    Calls Try.prog 25 #[.slice a l.length cap] w fun e w' => ∃ b c, e = .returned (.tuple #[.slice b l.length c, .int .i64 0]) ∧ IntRow w' b (nums l l.length) ∧ l.length ≤ c ∧ c ≤ 9223372036854775807 ∧ Upd [] w w' := by
  obtain ⟨n, hnl⟩ : ∃ n, n = l.length := ⟨_, rfl⟩
  obtain ⟨i0, hi, hz0, hz1, hz2⟩ := info_parts CL.info3
  have HI := hid hi
  have I0 := hid hz0
  have I1 := hid hz1
  have I2 := hid hz2
  clear hi hz0 hz1 hz2
  rw [← hnl] at hlc hn ⊢
  have HX := hid hx
  have HN := hid hnl
  have HV := hid hv
  clear hx hnl hv
  have hmm := @run_makeMap Try.prog
  go_enter Try.func25, Try.ntmps25
  go_wp2_with fail
  have chk := check_any a cap l w HX.out (by rw [← HN.out]; exact hlc) hc (by rw [← HN.out]; exact hn)
  rw [← HN.out] at chk
  refine chk.mono ?_
  rintro e w1 ⟨c, rfl, hc0, hu⟩
  have hc00 : c = 0 := hc0.2 HV.out
  subst hc00
  have HU1 := hid hu
  clear hu hc0 chk
  obtain ⟨A, hA⟩ : ∃ A, A = w1.heap.size := ⟨_, rfl⟩
  obtain ⟨W0, hW0⟩ : ∃ W0, W0 = (w1.alloc (.cells #[.int .i64 0, .int .i64 0, .int .i64 0, .int .i64 0, .int .i64 0, .int .i64 0, .int .i64 0, .int .i64 0] 77)).alloc (.map #[] 0) := ⟨_, rfl⟩
  have hb0 : W0.heap[A]? = some (.cells #[.int .i64 0, .int .i64 0, .int .i64 0, .int .i64 0, .int .i64 0, .int .i64 0, .int .i64 0, .int .i64 0] 77) := by rw [hW0, hA]; exact blk_alloc (blk_new w1 _) _
  have hm0 : IsMap W0 (A + 1) [] := by
    have := IsMap.made (w1.alloc (.cells #[.int .i64 0, .int .i64 0, .int .i64 0, .int .i64 0, .int .i64 0, .int .i64 0, .int .i64 0, .int .i64 0] 77))
    rw [World.size_alloc, ← hA, ← hW0] at this; exact this
  have u0 : Upd [] w W0 := by rw [hW0]; exact (HU1.out.alloc _).alloc _
  have HB0 := hid hb0
  have HM0 := hid hm0
  have U0 := hid u0
  have HAw := hid (show w.heap.size ≤ A by rw [hA]; exact HU1.out.size)
  clear hb0 hm0 u0
  go_wp2_with fail
  rw [← hW0, ← hA]
  clear hW0 hA HU1 hmm
  go_loopg [7, 19] n (fun d v7 v19 wr => ∃ (j : Nat) (mm : Mp) (cs : Array Value), v19 = .int .i64 (j : Int) ∧ Hid (j + d = n) ∧ Hid (wr.heap[A]? = some (.cells cs 77) ∧ cs.size = 8 ∧ ∀ p, p < 8 → cs[p]? = some (.int .i64 ((nOf (l.take j)).now p))) ∧ Hid (IsMap wr (A + 1) mm) ∧ Hid (Nums mm (nOf (l.take j)).way) ∧ Hid (wr.ownsRow w.heap.size 3 1 v7 j (ints (nums l j))) ∧ Hid (Upd [] w wr))
  case atStart =>
    refine ⟨0, [], _, rfl, by show _ = _; omega, ⟨HB0.out, rfl, fun p hp => ?_⟩, HM0.out, hid (fun k => rfl), World.ownsRow_nil _ _ _ _, U0.out⟩
    match p, hp with
    | 0, _ => rfl
    | 1, _ => rfl
    | 2, _ => rfl
    | 3, _ => rfl
    | 4, _ => rfl
    | 5, _ => rfl
    | 6, _ => rfl
    | 7, _ => rfl
  case round =>
    clear HB0 HM0 U0
    obtain ⟨j, mm, cs, rfl, Hj, HB, HM, HW, HO, Hu⟩ := hrel
    by_cases hj : j < n
    · obtain ⟨g, rfl, c0, c1, c2⟩ := HX.out.upd Hu.out j (by rw [← HN.out]; exact hj)
      have hft := HV.out j (by rw [← HN.out]; exact hj)
      have hbd := n_bound l j (by rw [← HN.out]; omega)
      obtain ⟨ev, hev⟩ : ∃ ev, ev = l.getD j noEv := ⟨_, rfl⟩
      rw [← hev] at c0 c1 c2 hft
      have HE := hid hev
      have hpl : ev.place < 8 := hft.p8
      obtain ⟨pl, kd, ms⟩ := ev
      simp only at c0 c1 c2 hpl
      clear hev hft
      obtain ⟨x, hx⟩ : ∃ x, x = (nOf (l.take j)).now pl := ⟨_, rfl⟩
      obtain ⟨y, hy⟩ : ∃ y, y = (nOf (l.take j)).way ms := ⟨_, rfl⟩
      have bx := hbd.1 pl
      have bY := hbd.2 ms
      rw [← hx] at bx
      rw [← hy] at bY
      obtain ⟨hb, hsz, hcs⟩ := HB.out
      have hcx := hcs pl hpl
      rw [← hx] at hcx
      have qA : ∀ o, (wr.alloc o).cell? ⟨A, pl, none⟩ = some (.int .i64 x) := fun o => (blk_cell (blk_alloc hb o) pl).trans hcx
      have qAf : ∀ o, (wr.alloc o).frozen? ⟨A, pl, none⟩ = false := fun o => blk_frozen (blk_alloc hb o) pl
      have hE := blk_new wr (.cells #[.int .i64 (pl : Int), .int .i64 (kd : Int), .int .i64 (ms : Int)] 31)
      have hAlt : A < wr.heap.size := blk_lt hb
      have hE1 : ∀ v, ((wr.alloc (.cells #[.int .i64 (pl : Int), .int .i64 (kd : Int), .int .i64 (ms : Int)] 31)).setCell ⟨A, pl, none⟩ v).heap[wr.heap.size]? = some (.cells #[.int .i64 (pl : Int), .int .i64 (kd : Int), .int .i64 (ms : Int)] 31) := fun v => blk_far hE (p := ⟨A, pl, none⟩) (by show wr.heap.size ≠ A; omega) v
      have q1 : ∀ v, ((wr.alloc (.cells #[.int .i64 (pl : Int), .int .i64 (kd : Int), .int .i64 (ms : Int)] 31)).setCell ⟨A, pl, none⟩ v).cell? ⟨wr.heap.size, 1, none⟩ = some (.int .i64 (kd : Int)) := fun v => (blk_cell (hE1 v) 1).trans rfl
      have q2 : ∀ v, ((wr.alloc (.cells #[.int .i64 (pl : Int), .int .i64 (kd : Int), .int .i64 (ms : Int)] 31)).setCell ⟨A, pl, none⟩ v).cell? ⟨wr.heap.size, 2, none⟩ = some (.int .i64 (ms : Int)) := fun v => (blk_cell (hE1 v) 2).trans rfl
      have L1 : ∀ o, (Instr.lookup 78 (.map (some (A + 1))) (.int .i64 (ms : Int)) false).run Try.prog (wr.alloc o) = .ok (.int .i64 y) (wr.alloc o) := fun o => by
        have := (run_look (P := Try.prog) (HM.out.alloc o) Try.underlying78 Try.underlying3 (zero3 _) (ms : Int)).1
        rw [HW.out ms, ← hy] at this; exact this
      have HSZ := hid hsz
      have HBB := hid hb
      have HX' := hid hx
      have HY' := hid hy
      clear hbd hb hsz hcs hcx hE hE1 hx hy
      rcases (show kd = 3 ∨ kd = 2 ∨ (kd ≠ 3 ∧ kd ≠ 2) by omega) with hk | hk | hk
      · have hk3 : ((kd : Int) == 3) = true := by rw [beq_iff_eq]; omega
        have hk2 : ((kd : Int) == 2) = false := by rw [beq_eq_false_iff_ne]; omega
        obtain ⟨r, hr⟩ : ∃ r : Nat, max x y = (r : Int) := ⟨(max x y).toNat, by omega⟩
        have hmax := fun ats ty => max_nat ats ty .i64 .i64 x y r hr
        have hr2 : r ≤ 200 := by omega
        have HRR := hid hr
        clear hr
        obtain ⟨w5, hw5⟩ : ∃ w5, w5 = (wr.setCell ⟨A, pl, none⟩ (.int .i64 ((r : Int) + 1))).alloc (.cells #[.int .i64 (pl : Int), .int .i64 3, .int .i64 (ms : Int)] 31) := ⟨_, rfl⟩
        have hnum : numAt l j = (r : Int) + 1 := by unfold numAt NSt.num NSt.pre; rw [← HE.out]; rw [if_pos (by show kd = 3; omega), ← HRR.out, HX'.out, HY'.out]
        have b5 : w5.heap[A]? = some (.cells (cs.setIfInBounds pl (.int .i64 ((r : Int) + 1))) 77) := by rw [hw5]; exact blk_alloc (blk_set HBB.out pl _) _
        have u5 : Upd [A] wr w5 := by rw [hw5]; exact ((Upd.refl [A] wr).setCell (.inl (by simp)) _).alloc _
        have m5 : IsMap w5 (A + 1) mm := HM.out.upd u5 (by simp)
        have o5 : w5.ownsRow w.heap.size 3 1 u7 j (ints (nums l j)) := own_upd HO.out u5 (fun k hk => by simpa using own_cells_ne HO.out HBB.out (by decide) k hk)
        have Z5 : Hid (w5.heap.size = wr.heap.size + 1) := by show _ = _; rw [hw5]; simp [World.setCell]
        have HW5 := hid hw5
        have B5 := hid b5
        have U5 := hid u5
        have M5 := hid m5
        have O5 := hid o5
        have HNUM := hid hnum
        clear hw5 b5 u5 m5 o5 hnum
        go_wp2_with (first | (at_builtin; rw [← HW5.out]; refine wpList_app (W := w5) rfl (.tmp 49) (.tmp 51) 22 rfl w.heap.size 3 i0 _ 1 8 Try.underlying22 HI.out I0.out I1.out I2.out rfl (by decide) u7 j (ints (nums l j)) rfl O5.out [.int .i64 ((r : Int) + 1)] 3 (by first | rfl | (rw [Z5.out]; rfl)) rfl (by intro u hu; simp at hu; subst hu; rfl) (by omega) (by omega) (Nat.le_trans Hu.out.size U5.out.size) ?_; intro v7' w7 ho2 hu2 hl2; have HO2 := hid ho2; have HU2 := hid hu2; clear ho2 hu2 hl2))
        obtain ⟨w6, hw6⟩ : ∃ w6, w6 = w5 := ⟨_, rfl⟩
        rw [← hw6] at B5 M5 O5 HU2 U5
        have B6 := B5
        have M6 := M5
        have O6 := O5
        have U6 : Hid (Upd [A, A + 1] wr w6) := U5.out.mono (by simp)
        go_roundg (n - (j + 1))
        case measure => have := Hj.out; omega
        case rel =>
          have hst : nOf (l.take (j + 1)) = (nOf (l.take j)).step ⟨pl, kd, ms⟩ := by rw [n_succ l j (by rw [← HN.out]; exact hj), HE.out]
          have hnm : (nOf (l.take j)).num ⟨pl, kd, ms⟩ = (r : Int) + 1 := by have := HNUM.out; unfold numAt at this; rw [← HE.out] at this; exact this
          have hAb : ∀ z, (z = A ∨ z = A + 1) → z ∉ u7.ownBlock.toList := by
            intro z hz hm
            cases e : u7.ownBlock with
            | none => rw [e] at hm; simp at hm
            | some k' =>
              rw [e] at hm; simp at hm
              rcases hz with rfl | rfl
              · exact own_cells_ne HO.out HBB.out (by decide) k' e hm.symm
              · exact own_map_ne HO.out HM.out k' e hm.symm
          refine ⟨j + 1, mm, _, by go_num, by show _ = _; omega, ⟨HU2.out.blk B6.out (hAb A (.inl rfl)), by simpa using HSZ.out, fun p hp => ?_⟩, M6.out.upd HU2.out (hAb _ (.inr rfl)), ?_, ?_, ?_⟩
          · rw [hst]
            show _ = some (Value.int .i64 (if p = pl then _ else _))
            by_cases hpp : pl = p
            · subst hpp
              rw [Array.getElem?_setIfInBounds_self_of_lt (by rw [HSZ.out]; exact hp), if_pos rfl, hnm]
            · rw [Array.getElem?_setIfInBounds_ne hpp, if_neg (Ne.symm hpp)]; exact HB.out.2.2 p hp
          · rw [hst]
            refine hid (fun k => ?_)
            show _ = Value.int .i64 (if kd = 2 ∧ k = ms then _ else _)
            rw [if_neg (by omega)]; exact HW.out k
          · show World.ownsRow _ _ _ _ _ _ _
            have := HO2.out
            rw [nums_succ, HNUM.out]
            simpa [ints] using this
          · have a : Upd [A, A + 1] w w6 := (Hu.out.mono (by simp)).trans U6.out (fun t ht => .inl ht)
            have b := a.trans HU2.out (T := u7.ownBlock.toList) (fun t ht => .inr (by
              cases e : u7.ownBlock with
              | none => rw [e] at ht; simp at ht
              | some k' => rw [e] at ht; simp at ht; subst ht; exact own_ge HO.out _ e))
            exact b.mono (fun t ht => .inr (by simp at ht; have := HAw.out; omega))
      · have hk3 : ((kd : Int) == 3) = false := by rw [beq_eq_false_iff_ne]; omega
        have hk2 : ((kd : Int) == 2) = true := by rw [beq_iff_eq]; omega
        obtain ⟨r, hr⟩ : ∃ r : Nat, x = (r : Int) := ⟨x.toNat, by omega⟩
        have hr2 : r ≤ 200 := by omega
        subst hr
        obtain ⟨w5, hw5⟩ : ∃ w5, w5 = (wr.setCell ⟨A, pl, none⟩ (.int .i64 ((r : Int) + 1))).alloc (.cells #[.int .i64 (pl : Int), .int .i64 2, .int .i64 (ms : Int)] 31) := ⟨_, rfl⟩
        have hnum : numAt l j = (r : Int) + 1 := by unfold numAt NSt.num NSt.pre; rw [← HE.out]; rw [if_neg (by show ¬ kd = 3; omega), HX'.out]
        have b5 : w5.heap[A]? = some (.cells (cs.setIfInBounds pl (.int .i64 ((r : Int) + 1))) 77) := by rw [hw5]; exact blk_alloc (blk_set HBB.out pl _) _
        have u5 : Upd [A] wr w5 := by rw [hw5]; exact ((Upd.refl [A] wr).setCell (.inl (by simp)) _).alloc _
        have m5 : IsMap w5 (A + 1) mm := HM.out.upd u5 (by simp)
        have o5 : w5.ownsRow w.heap.size 3 1 u7 j (ints (nums l j)) := own_upd HO.out u5 (fun k hk => by simpa using own_cells_ne HO.out HBB.out (by decide) k hk)
        have Z5 : Hid (w5.heap.size = wr.heap.size + 1) := by show _ = _; rw [hw5]; simp [World.setCell]
        have HW5 := hid hw5
        have B5 := hid b5
        have U5 := hid u5
        have M5 := hid m5
        have O5 := hid o5
        have HNUM := hid hnum
        clear hw5 b5 u5 m5 o5 hnum
        go_wp2_with (first
          | (at_mapUpdate; rw [← HW5.out]; refine wpList_put rfl _ _ _ 78 rfl 3 3 Try.underlying78 Try.underlying3 (A + 1) mm rfl M5.out _ _ rfl rfl ?_; intro w6 hm6 hu6; have M6 := hid hm6; have HU6 := hid hu6; have O6 : Hid (w6.ownsRow w.heap.size 3 1 u7 j (ints (nums l j))) := own_upd O5.out hu6 (fun k hk => by simpa using own_map_ne O5.out M5.out k hk); have S6 := hid (Nat.le_trans (Nat.le_trans Hu.out.size U5.out.size) hu6.size); clear hm6 hu6)
          | (at_builtin; refine wpList_app (W := w6) rfl (.tmp 49) (.tmp 51) 22 rfl w.heap.size 3 i0 _ 1 8 Try.underlying22 HI.out I0.out I1.out I2.out rfl (by decide) u7 j (ints (nums l j)) rfl O6.out [.int .i64 ((r : Int) + 1)] 3 rfl rfl (by intro u hu; simp at hu; subst hu; rfl) (by omega) (by omega) S6.out ?_; intro v7' w7 ho2 hu2 hl2; have HO2 := hid ho2; have HU2 := hid hu2; clear ho2 hu2 hl2))
        have B6 : Hid (w6.heap[A]? = _) := HU6.out.blk B5.out (by simp)
        have U6 : Hid (Upd [A, A + 1] wr w6) := (U5.out.mono (by simp)).trans HU6.out (by simp)
        go_roundg (n - (j + 1))
        case measure => have := Hj.out; omega
        case rel =>
          have hst : nOf (l.take (j + 1)) = (nOf (l.take j)).step ⟨pl, kd, ms⟩ := by rw [n_succ l j (by rw [← HN.out]; exact hj), HE.out]
          have hnm : (nOf (l.take j)).num ⟨pl, kd, ms⟩ = (r : Int) + 1 := by have := HNUM.out; unfold numAt at this; rw [← HE.out] at this; exact this
          have hAb : ∀ z, (z = A ∨ z = A + 1) → z ∉ u7.ownBlock.toList := by
            intro z hz hm
            cases e : u7.ownBlock with
            | none => rw [e] at hm; simp at hm
            | some k' =>
              rw [e] at hm; simp at hm
              rcases hz with rfl | rfl
              · exact own_cells_ne HO.out HBB.out (by decide) k' e hm.symm
              · exact own_map_ne HO.out HM.out k' e hm.symm
          refine ⟨j + 1, (mput mm (ms : Int) (Value.int .i64 ((r : Int) + 1))), _, by go_num, by show _ = _; omega, ⟨HU2.out.blk B6.out (hAb A (.inl rfl)), by simpa using HSZ.out, fun p hp => ?_⟩, M6.out.upd HU2.out (hAb _ (.inr rfl)), ?_, ?_, ?_⟩
          · rw [hst]
            show _ = some (Value.int .i64 (if p = pl then _ else _))
            by_cases hpp : pl = p
            · subst hpp
              rw [Array.getElem?_setIfInBounds_self_of_lt (by rw [HSZ.out]; exact hp), if_pos rfl, hnm]
            · rw [Array.getElem?_setIfInBounds_ne hpp, if_neg (Ne.symm hpp)]; exact HB.out.2.2 p hp
          · rw [hst]
            refine hid (fun k => ?_)
            have hp := HW.out.put ms ((r : Int) + 1) k
            rw [hp]
            show Value.int .i64 (if k = ms then (r : Int) + 1 else (nOf (l.take j)).way k) = Value.int .i64 (if kd = 2 ∧ k = ms then _ else _)
            by_cases e : k = ms
            · rw [if_pos e, if_pos ⟨by omega, e⟩, hnm]
            · rw [if_neg e, if_neg (by omega)]
          · show World.ownsRow _ _ _ _ _ _ _
            have := HO2.out
            rw [nums_succ, HNUM.out]
            simpa [ints] using this
          · have a : Upd [A, A + 1] w w6 := (Hu.out.mono (by simp)).trans U6.out (fun t ht => .inl ht)
            have b := a.trans HU2.out (T := u7.ownBlock.toList) (fun t ht => .inr (by
              cases e : u7.ownBlock with
              | none => rw [e] at ht; simp at ht
              | some k' => rw [e] at ht; simp at ht; subst ht; exact own_ge HO.out _ e))
            exact b.mono (fun t ht => .inr (by simp at ht; have := HAw.out; omega))
      · have hk3 : ((kd : Int) == 3) = false := by rw [beq_eq_false_iff_ne]; omega
        have hk2 : ((kd : Int) == 2) = false := by rw [beq_eq_false_iff_ne]; omega
        obtain ⟨r, hr⟩ : ∃ r : Nat, x = (r : Int) := ⟨x.toNat, by omega⟩
        have hr2 : r ≤ 200 := by omega
        subst hr
        obtain ⟨w5, hw5⟩ : ∃ w5, w5 = (wr.setCell ⟨A, pl, none⟩ (.int .i64 ((r : Int) + 1))).alloc (.cells #[.int .i64 (pl : Int), .int .i64 (kd : Int), .int .i64 (ms : Int)] 31) := ⟨_, rfl⟩
        have hnum : numAt l j = (r : Int) + 1 := by unfold numAt NSt.num NSt.pre; rw [← HE.out]; rw [if_neg (by show ¬ kd = 3; omega), HX'.out]
        have b5 : w5.heap[A]? = some (.cells (cs.setIfInBounds pl (.int .i64 ((r : Int) + 1))) 77) := by rw [hw5]; exact blk_alloc (blk_set HBB.out pl _) _
        have u5 : Upd [A] wr w5 := by rw [hw5]; exact ((Upd.refl [A] wr).setCell (.inl (by simp)) _).alloc _
        have m5 : IsMap w5 (A + 1) mm := HM.out.upd u5 (by simp)
        have o5 : w5.ownsRow w.heap.size 3 1 u7 j (ints (nums l j)) := own_upd HO.out u5 (fun k hk => by simpa using own_cells_ne HO.out HBB.out (by decide) k hk)
        have Z5 : Hid (w5.heap.size = wr.heap.size + 1) := by show _ = _; rw [hw5]; simp [World.setCell]
        have HW5 := hid hw5
        have B5 := hid b5
        have U5 := hid u5
        have M5 := hid m5
        have O5 := hid o5
        have HNUM := hid hnum
        clear hw5 b5 u5 m5 o5 hnum
        go_wp2_with (first | (at_builtin; rw [← HW5.out]; refine wpList_app (W := w5) rfl (.tmp 49) (.tmp 51) 22 rfl w.heap.size 3 i0 _ 1 8 Try.underlying22 HI.out I0.out I1.out I2.out rfl (by decide) u7 j (ints (nums l j)) rfl O5.out [.int .i64 ((r : Int) + 1)] 3 (by first | rfl | (rw [Z5.out]; rfl)) rfl (by intro u hu; simp at hu; subst hu; rfl) (by omega) (by omega) (Nat.le_trans Hu.out.size U5.out.size) ?_; intro v7' w7 ho2 hu2 hl2; have HO2 := hid ho2; have HU2 := hid hu2; clear ho2 hu2 hl2))
        obtain ⟨w6, hw6⟩ : ∃ w6, w6 = w5 := ⟨_, rfl⟩
        rw [← hw6] at B5 M5 O5 HU2 U5
        have B6 := B5
        have M6 := M5
        have O6 := O5
        have U6 : Hid (Upd [A, A + 1] wr w6) := U5.out.mono (by simp)
        go_roundg (n - (j + 1))
        case measure => have := Hj.out; omega
        case rel =>
          have hst : nOf (l.take (j + 1)) = (nOf (l.take j)).step ⟨pl, kd, ms⟩ := by rw [n_succ l j (by rw [← HN.out]; exact hj), HE.out]
          have hnm : (nOf (l.take j)).num ⟨pl, kd, ms⟩ = (r : Int) + 1 := by have := HNUM.out; unfold numAt at this; rw [← HE.out] at this; exact this
          have hAb : ∀ z, (z = A ∨ z = A + 1) → z ∉ u7.ownBlock.toList := by
            intro z hz hm
            cases e : u7.ownBlock with
            | none => rw [e] at hm; simp at hm
            | some k' =>
              rw [e] at hm; simp at hm
              rcases hz with rfl | rfl
              · exact own_cells_ne HO.out HBB.out (by decide) k' e hm.symm
              · exact own_map_ne HO.out HM.out k' e hm.symm
          refine ⟨j + 1, mm, _, by go_num, by show _ = _; omega, ⟨HU2.out.blk B6.out (hAb A (.inl rfl)), by simpa using HSZ.out, fun p hp => ?_⟩, M6.out.upd HU2.out (hAb _ (.inr rfl)), ?_, ?_, ?_⟩
          · rw [hst]
            show _ = some (Value.int .i64 (if p = pl then _ else _))
            by_cases hpp : pl = p
            · subst hpp
              rw [Array.getElem?_setIfInBounds_self_of_lt (by rw [HSZ.out]; exact hp), if_pos rfl, hnm]
            · rw [Array.getElem?_setIfInBounds_ne hpp, if_neg (Ne.symm hpp)]; exact HB.out.2.2 p hp
          · rw [hst]
            refine hid (fun k => ?_)
            show _ = Value.int .i64 (if kd = 2 ∧ k = ms then _ else _)
            rw [if_neg (by omega)]; exact HW.out k
          · show World.ownsRow _ _ _ _ _ _ _
            have := HO2.out
            rw [nums_succ, HNUM.out]
            simpa [ints] using this
          · have a : Upd [A, A + 1] w w6 := (Hu.out.mono (by simp)).trans U6.out (fun t ht => .inl ht)
            have b := a.trans HU2.out (T := u7.ownBlock.toList) (fun t ht => .inr (by
              cases e : u7.ownBlock with
              | none => rw [e] at ht; simp at ht
              | some k' => rw [e] at ht; simp at ht; subst ht; exact own_ge HO.out _ e))
            exact b.mono (fun t ht => .inr (by simp at ht; have := HAw.out; omega))
    · go_wp2_with fail
      go_ret2
      have hjn : j = n := by have := Hj.out; omega
      subst hjn
      have hl := nums_length l j
      have ho := HO.out
      obtain ⟨b, c, rfl, h1, h2, h3⟩ := intRow_of (l := nums l j) (by rw [hl]; exact ho)
      rw [hl] at h1 ⊢
      exact ⟨b, c, rfl, h3, h1, h2, Hu.out⟩
end Go.Proofs.Ytcdladnbcamgjaa.Nu
