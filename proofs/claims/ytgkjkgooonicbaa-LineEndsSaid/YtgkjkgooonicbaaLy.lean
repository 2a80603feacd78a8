/- The function played: two ends between which packets are lost, doubled and turned. -/
import Derived.Test.YtgkjkgooonicbaaLx
namespace Go.Proofs.Ytgkjkgooonicbaa.Lm
open Go Go.RowKit Go.Proofs.Ytgkjkgooonicbaa Go.Proofs.Ytgkjkgooonicbaa.K Go.Proofs.Ytgkjkgooonicbaa.M Go.Proofs.Ytgkjkgooonicbaa.O Go.Proofs.Ytgkjkgooonicbaa.R

/-- What played keeps in memory. -/
structure PM where
  F0 : List Nat
  F1 : List Nat
  x : E
  y : E
  pv0 : Value
  pv1 : Value
  gv0 : Value
  gv1 : Value
  wv0 : Value
  wv1 : Value
  A0 : List (List Nat)
  A1 : List (List Nat)
  G0 : List (List Nat)
  G1 : List (List Nat)
  W0 : List Pk
  W1 : List Pk
def PM.lst (m : PM) (gx gy Q8 Q9 Q11 Q12 : Nat) : List Itm :=
  [endI m.F0 gx m.x, endI m.F1 gy m.y, rowI m.pv0 m.A0, rowI m.pv1 m.A1, rowI m.gv0 m.G0, rowI m.gv1 m.G1, pksI m.wv0 m.W0, pksI m.wv1 m.W1,
    blkI Q8 #[m.pv0, m.pv1] 46 (by decide), blkI Q9 #[m.gv0, m.gv1] 46 (by decide), blkI Q11 #[.pointer (some ⟨gx, 0, none⟩), .pointer (some ⟨gy, 0, none⟩)] 80 (by decide), blkI Q12 #[m.wv0, m.wv1] 81 (by decide)]
def PM.inv (m : PM) : Prop := Inv m.x m.y m.A0 m.A1 m.G0 m.G1 m.W0 m.W1
/-- How much there is after j plays. -/
def PM.few (m : PM) (j : Nat) : Prop := m.A0.length ≤ j ∧ m.A1.length ≤ j ∧ m.W0.length ≤ 16 * j ∧ m.W1.length ≤ 16 * j
theorem nil_row (w : World) : (rowI (.slice none 0 0) []).P w := ⟨[], World.ownsRow_nil _ _ _ _, Bodies.nil _⟩
theorem nil_pks (w : World) : (pksI (.slice none 0 0) []).P w := IsPks.nil _ _
theorem body3 (w : World) (j o : Nat) (z : Int) (hz : z = (o : Int)) : Body (w.alloc (.cells #[.int .u8 ((j : Int) % 256), .int .u8 ((j : Int) / 256), .int .u8 z] 5)) (.slice (some ⟨w.heap.size, 0, none⟩) 3 3) [j % 256, j / 256, o] := by
  refine ⟨_, _, rfl, by simp, by omega, fun x hx => by cases hx; exact ⟨_, _, rfl⟩, fun i hi => ?_⟩
  have hb := blk_new w (.cells #[.int .u8 ((j : Int) % 256), .int .u8 ((j : Int) / 256), .int .u8 z] 5)
  match i, hi with
  | 0, _ => exact ⟨_, 0, rfl, (blk_cell hb _).trans (by simp), _, _, hb⟩
  | 1, _ => exact ⟨_, 0, rfl, (blk_cell hb _).trans (by simp), _, _, hb⟩
  | 2, _ => exact ⟨_, 0, rfl, (blk_cell hb _).trans (by simp [hz]), _, _, hb⟩
theorem out_len (e : E) (h : e.kept.length ≤ 16) : e.out.length ≤ 16 := by
  have ht : e.top ≤ e.kept.length := by unfold E.top; omega
  unfold E.out
  split
  · rw [E.says_len]; omega
  · split <;> simp
theorem pm_start {w w1 : World} {gx gy : Nat} {x y : E} (t : Two ((w.alloc (.cells #[.slice none 0 0, .slice none 0 0] 46)).alloc (.cells #[.slice none 0 0, .slice none 0 0] 46)).heap.size gx gy x y w1)
    (u : Upd [] ((w.alloc (.cells #[.slice none 0 0, .slice none 0 0] 46)).alloc (.cells #[.slice none 0 0, .slice none 0 0] 46)) w1) :
    ∃ F0 F1, All w.heap.size ((w1.alloc (.cells #[.pointer (some ⟨gx, 0, none⟩), .pointer (some ⟨gy, 0, none⟩)] 80)).alloc (.cells #[.slice none 0 0, .slice none 0 0] 81))
      (PM.lst ⟨F0, F1, x, y, .slice none 0 0, .slice none 0 0, .slice none 0 0, .slice none 0 0, .slice none 0 0, .slice none 0 0, [], [], [], [], [], []⟩ gx gy w.heap.size (w.heap.size + 1) w1.heap.size (w1.heap.size + 1)) := by
  obtain ⟨F, G, h1, h2, h3, h4, h5, h6⟩ := t
  have hs : ((w.alloc (.cells #[.slice none 0 0, .slice none 0 0] 46)).alloc (.cells #[.slice none 0 0, .slice none 0 0] 46)).heap.size = w.heap.size + 2 := by simp
  rw [hs] at h4 h5 h6
  have b8 : w1.heap[w.heap.size]? = some (.cells #[.slice none 0 0, .slice none 0 0] 46 (0, 0)) := by
    refine u.blk ?_ (by simp)
    have := blk_new w (.cells #[.slice none 0 0, .slice none 0 0] 46)
    exact ((Upd.refl [] _).alloc _).blk this (by simp)
  have b9 : w1.heap[w.heap.size + 1]? = some (.cells #[.slice none 0 0, .slice none 0 0] 46 (0, 0)) := by
    refine u.blk ?_ (by simp)
    have := blk_new (w.alloc (.cells #[.slice none 0 0, .slice none 0 0] 46)) (.cells #[.slice none 0 0, .slice none 0 0] 46)
    simpa using this
  have a0 : All w.heap.size w1 [] := ⟨fun i a h => by simp at h, fun i a h => by simp at h, fun i j _ a b h => by simp at h, by omega⟩
  have a1 := a0.snoc (a := endI F gx x) h1 (fun s hs => by have := h4 s hs; omega) (fun i b hb => by simp at hb)
  have a2 := a1.snoc (a := endI G gy y) h2 (fun s hs => by have := h5 s hs; omega) (fun i b hb s hs hs2 => by
    match i, hb with
    | 0, hb => cases hb; exact h3 s hs2 hs)
  have e0 : ∀ s, s ∈ (rowI (.slice none 0 0) []).ft → False := fun s hs => by cases hs
  have e1 : ∀ s, s ∈ (pksI (.slice none 0 0) []).ft → False := fun s hs => by cases hs
  have a3 := a2.snoc (nil_row w1) (fun s hs => (e0 s hs).elim) (fun i b hb s hs => (e0 s hs).elim)
  have a4 := a3.snoc (nil_row w1) (fun s hs => (e0 s hs).elim) (fun i b hb s hs => (e0 s hs).elim)
  have a5 := a4.snoc (nil_row w1) (fun s hs => (e0 s hs).elim) (fun i b hb s hs => (e0 s hs).elim)
  have a6 := a5.snoc (nil_row w1) (fun s hs => (e0 s hs).elim) (fun i b hb s hs => (e0 s hs).elim)
  have a7 := a6.snoc (nil_pks w1) (fun s hs => (e1 s hs).elim) (fun i b hb s hs => (e1 s hs).elim)
  have a8 := a7.snoc (nil_pks w1) (fun s hs => (e1 s hs).elim) (fun i b hb s hs => (e1 s hs).elim)
  have a9 := a8.snoc (a := blkI w.heap.size #[.slice none 0 0, .slice none 0 0] 46 (by decide)) b8 (fun s hs => by simp [blkI] at hs; omega) (fun i b hb s hs hs2 => by
    simp [blkI] at hs
    subst hs
    match i, hb with
    | 0, hb => cases hb; have := h4 _ hs2; omega
    | 1, hb => cases hb; have := h5 _ hs2; omega
    | 2, hb => cases hb; exact e0 _ hs2
    | 3, hb => cases hb; exact e0 _ hs2
    | 4, hb => cases hb; exact e0 _ hs2
    | 5, hb => cases hb; exact e0 _ hs2
    | 6, hb => cases hb; exact e1 _ hs2
    | 7, hb => cases hb; exact e1 _ hs2
    | k + 8, hb => simp at hb)
  have a10 := a9.snoc (a := blkI (w.heap.size + 1) #[.slice none 0 0, .slice none 0 0] 46 (by decide)) b9 (fun s hs => by simp [blkI] at hs; omega) (fun i b hb s hs hs2 => by
    simp [blkI] at hs
    subst hs
    match i, hb with
    | 0, hb => cases hb; have := h4 _ hs2; omega
    | 1, hb => cases hb; have := h5 _ hs2; omega
    | 2, hb => cases hb; exact e0 _ hs2
    | 3, hb => cases hb; exact e0 _ hs2
    | 4, hb => cases hb; exact e0 _ hs2
    | 5, hb => cases hb; exact e0 _ hs2
    | 6, hb => cases hb; exact e1 _ hs2
    | 7, hb => cases hb; exact e1 _ hs2
    | 8, hb => cases hb; simp [blkI] at hs2
    | k + 9, hb => simp at hb)
  have a11 := a10.fresh (w' := w1.alloc (.cells #[.pointer (some ⟨gx, 0, none⟩), .pointer (some ⟨gy, 0, none⟩)] 80)) ((Upd.refl [] _).alloc _) (a := blkI w1.heap.size #[.pointer (some ⟨gx, 0, none⟩), .pointer (some ⟨gy, 0, none⟩)] 80 (by decide)) (blk_new w1 _) (fun s hs => by simp [blkI] at hs; omega)
  have a12 := a11.fresh (w' := (w1.alloc (.cells #[.pointer (some ⟨gx, 0, none⟩), .pointer (some ⟨gy, 0, none⟩)] 80)).alloc (.cells #[.slice none 0 0, .slice none 0 0] 81)) ((Upd.refl [] _).alloc _) (a := blkI (w1.heap.size + 1) #[.slice none 0 0, .slice none 0 0] 81 (by decide)) (by have := blk_new (w1.alloc (.cells #[.pointer (some ⟨gx, 0, none⟩), .pointer (some ⟨gy, 0, none⟩)] 80)) (.cells #[.slice none 0 0, .slice none 0 0] 81); simpa [blkI] using this) (fun s hs => by simp [blkI] at hs; simp; omega)
  exact ⟨F, G, a12⟩

set_option maxHeartbeats 4000000 in
set_option maxRecDepth 100000 in
theorem played_any (a0 b0 : Int) (a : Option Addr) (len cap : Nat) (xs : List Int) (w : World) (hx : IntRow w a xs) (hl : xs.length = len) (hlc : len ≤ cap) (hc : cap ≤ 9223372036854775807) :
    Calls Try.prog 26 #[.int .i64 a0, .int .i64 b0, .slice a len cap] w fun e w' => ∃ (gx gy Q8 Q9 Q11 Q12 : Nat) (m : PM), e = .returned (.tuple #[.pointer (some ⟨gx, 0, none⟩), .pointer (some ⟨gy, 0, none⟩), .agg #[m.pv0, m.pv1], .agg #[m.gv0, m.gv1], .bool true]) ∧ All w.heap.size w' (m.lst gx gy Q8 Q9 Q11 Q12) ∧ m.inv ∧ m.few 300 ∧ Upd [] w w' := by
  obtain ⟨i29, hi29, hz29a, hz29b, hz29c⟩ := info_parts info29
  have HI29 := hid hi29
  have HA29 := hid hz29a
  have HB29 := hid hz29b
  have HC29 := hid hz29c
  obtain ⟨i34, hi34, hz34a, hz34b, hz34c⟩ := info_parts info34
  have HI34 := hid hi34
  have HA34 := hid hz34a
  have HB34 := hid hz34b
  have HC34 := hid hz34c
  have HX := hid hx
  have HL := hid hl
  clear hx hl hi29 hz29a hz29b hz29c hi34 hz34a hz34b hz34c
  obtain ⟨n, hn⟩ : ∃ n : Nat, min (len : Int) 300 = (n : Int) := ⟨min len 300, by omega⟩
  have hmin := fun ats ty => min_nat ats ty .i64 .i64 (len : Int) 300 n hn
  have hn1 : n ≤ len := by omega
  have hn2 : n ≤ 300 := by omega
  clear hn
  go_enter Try.func26, Try.ntmps26
  go_wp2_with fail
  refine (lines_any a0 b0 _).mono ?_
  rintro e w1 ⟨gx, gy, rfl, ht, hu⟩
  obtain ⟨F0, F1, al⟩ := pm_start ht hu
  have U1 := hid (((((Upd.refl [] w).alloc _).alloc _).trans hu (fun t ht => by cases ht)).alloc (.cells #[.pointer (some ⟨gx, 0, none⟩), .pointer (some ⟨gy, 0, none⟩)] 80) |>.alloc (.cells #[.slice none 0 0, .slice none 0 0] 81))
  obtain ⟨Q8, hQ8⟩ : ∃ Q8, Q8 = w.heap.size := ⟨_, rfl⟩
  obtain ⟨Q9, hQ9⟩ : ∃ Q9, Q9 = Q8 + 1 := ⟨_, rfl⟩
  obtain ⟨Q11, hQ11⟩ : ∃ Q11, Q11 = w1.heap.size := ⟨_, rfl⟩
  obtain ⟨Q12, hQ12⟩ : ∃ Q12, Q12 = Q11 + 1 := ⟨_, rfl⟩
  rw [← hQ8, ← hQ11, ← hQ9, ← hQ12] at al
  have AL := hid al
  have i0 : ∀ z, 1 ≤ 1 + restN z 16 ∧ 1 + restN z 16 ≤ 16 := fun z => ⟨by omega, by have := restN_lt z 16 (by omega); omega⟩
  have IV : Hid (Inv (E.new (1 + restN a0 16)) (E.new (1 + restN b0 16)) [] [] [] [] [] []) := hid (Inv.start (i0 a0).1 (i0 a0).2 (i0 b0).1 (i0 b0).2)
  have HQ8 := hid hQ8
  clear ht hu al i0
  go_wp2_with fail
  rw [← hQ8, ← hQ11, ← hQ9, ← hQ12]
  have hB : w.heap.size ≤ Q8 := by omega
  clear hQ8 hQ9 hQ11 hQ12
  go_loopg [10, 37] n (fun d v10 v37 wr => ∃ (j : Nat) (m : PM), v10 = .bool true ∧ v37 = .int .i64 (j : Int) ∧ Hid (j + d = n) ∧ Hid (All Q8 wr (m.lst gx gy Q8 Q9 Q11 Q12)) ∧ Hid m.inv ∧ Hid (m.few j) ∧ Hid (Upd [] w wr))
  case atStart => exact ⟨0, _, rfl, rfl, hid (by omega), AL, IV, hid ⟨Nat.le_refl _, Nat.le_refl _, Nat.le_refl _, Nat.le_refl _⟩, U1⟩
  case round =>
    clear AL IV U1
    obtain ⟨j, m, rfl, rfl, Hd, HA, HI, HF, HU⟩ := hrel
    by_cases hj : j < n
    · obtain ⟨xa, rfl, hcw⟩ := HX.out j (by rw [HL.out]; omega)
      obtain ⟨k, hk⟩ : ∃ k, k = xs.getD j 0 := ⟨_, rfl⟩
      rw [← hk] at hcw
      clear hk
      have hc1 := HU.out.cell hcw (by simp)
      clear hcw
      have c11 := HA.out.hold 10 _ rfl
      have c11a : wr.cell? ⟨Q11, 0, none⟩ = some (.pointer (some ⟨gx, 0, none⟩)) := (blk_cell c11 0).trans rfl
      have c11b : wr.cell? ⟨Q11, 1, none⟩ = some (.pointer (some ⟨gy, 0, none⟩)) := (blk_cell c11 1).trans rfl
      clear c11
      go_wp2_with fail
      refine (rest_some _ _ _ (by omega) (by omega)).mono ?_
      rintro e w' ⟨r, hr, -, rfl, rfl⟩
      have hr' : r = 0 ∨ r = 1 := by omega
      clear hr
      rcases hr' with rfl | rfl
      · go_wp2_with fail
        refine (rest_some _ _ _ (by omega) (by omega)).mono ?_
        rintro e w' ⟨r, hr, -, rfl, rfl⟩
        have hr' : r = 0 ∨ r = 1 ∨ r = 2 ∨ r = 3 ∨ r = 4 ∨ r = 5 ∨ r = 6 ∨ r = 7 := by omega
        clear hr c11a c11b
        rcases hr' with rfl | rfl | rfl | rfl | rfl | rfl | rfl | rfl
        · have bd := body3 wr j 0 0 rfl
          have HA1 := hid (HA.out.new ((Upd.refl [] wr).alloc (.cells #[.int .u8 ((j : Int) % 256), .int .u8 ((j : Int) / 256), .int .u8 0] 5)))
          have HU1 := hid (HU.out.alloc (.cells #[.int .u8 ((j : Int) % 256), .int .u8 ((j : Int) / 256), .int .u8 0] 5))
          have HBD := hid bd
          clear bd
          by_cases hfull : m.x.kept.length = m.x.window
          · have HFL := hid hfull
            clear hfull
            go_wp2_with fail
            refine (a_full HA1.out (i := 0) rfl _ 3 3 (by omega) HFL.out).mono ?_
            rintro e w4 ⟨rfl, ha, hu⟩
            have HA4 := hid ha
            have HU4 := hid (HU1.out.trans hu (fun t ht => by cases ht))
            clear ha hu
            go_wp2_with fail
            go_roundg (n - (j + 1))
            case measure => have := Hd.out; omega
            case rel => exact ⟨j + 1, m, rfl, by go_num, hid (by have := Hd.out; omega), HA4, hid HI.out, hid (by obtain ⟨f1, f2, f3, f4⟩ := HF.out; exact ⟨by omega, by omega, by omega, by omega⟩), HU4⟩
          · have HLT : Hid (m.x.kept.length < m.x.window) := hid (by have := HI.out.fx.kept; omega)
            clear hfull
            go_wp2_with fail
            refine (a_put HA1.out (i := 0) rfl HBD.out (by simp) HLT.out HI.out.fx.win).mono ?_
            rintro e w4 ⟨F', rfl, ha, hu, nb⟩
            have HA4 := hid ha
            have HU4 := hid (All.after HU1.out HA1.out (i := 0) rfl hu hB)
            have HB4 := hid (HBD.out.upd hu nb)
            clear ha hu nb
            obtain ⟨vs, ow, bs⟩ := HA4.out.hold 2 _ rfl
            obtain ⟨na, hna⟩ : ∃ na, na = m.A0.length := ⟨_, rfl⟩
            have OW : Hid (w4.ownsRow 0 29 1 m.pv0 na vs) := hid (by rw [hna]; exact ow)
            have BS := hid bs
            have c8 := HA4.out.hold 8 _ rfl
            have c8a : w4.cell? ⟨Q8, 0, none⟩ = some m.pv0 := (blk_cell c8 0).trans rfl
            have na3 : na ≤ 300 := by obtain ⟨f1, f2, f3, f4⟩ := HF.out; omega
            have HNA := hid hna
            clear ow bs c8 hna
            go_wp2_with (first | (at_builtin; refine wpList_app (W := w4) rfl (.tmp 82) (.tmp 84) 37 rfl 0 29 i29 _ 1 24 Try.underlying37 HI29.out HA29.out HB29.out HC29.out rfl (by decide) m.pv0 na vs rfl OW.out [.slice (some ⟨wr.heap.size, 0, none⟩) 3 3] 29 (by first | rfl | (rw [World.size_alloc]; rfl)) rfl (by intro u hu; simp at hu; subst hu; rfl) (by omega) (by omega) (by omega) ?_; intro v5 w5 ho hu5 hl5; obtain ⟨a5, k5, e5, -⟩ := own_view ho; subst e5; have HO5 := hid ho; have HU5 := hid hu5; have HL5 := hid hl5; have al5 := HA4.out.set (i := 2) (a' := rowI (.slice a5 (na + 1) k5) (m.A0 ++ [[j % 256, j / 256, 0]])) rfl hu5 ⟨_, by rw [List.length_append, ← HNA.out]; exact ho, (BS.out.upd hu5 (fun s hs => Itm.nob _ (HA4.out.hold 2 _ rfl) s hs)).snoc (HB4.out.upd hu5 (fun s hs => Itm.nob _ (HA4.out.hold 2 _ rfl) s hs))⟩ (fun s hs => (hl5 s (by simpa [rowI] using hs)).imp (fun q => by simpa [rowI] using q) id); have AL5 := hid al5; have c8 := al5.hold 8 _ rfl; have c8b := (blk_cell c8 0).trans rfl; have c8f := blk_frozen c8; clear ho hu5 hl5 al5 c8))
            go_roundg (n - (j + 1))
            case measure => have := Hd.out; omega
            case rel =>
              have u6 : Upd [Q8] w5 (w5.setCell ⟨Q8, 0, none⟩ (.slice a5 (na + 1) k5)) := (Upd.refl _ _).setCell (.inl (by simp)) _
              have A6 := AL5.out.set (i := 8) (a' := blkI Q8 #[.slice a5 (na + 1) k5, m.pv1] 46 (by decide)) rfl u6 (blk_set (AL5.out.hold 8 _ rfl) 0 _) (Fresh.refl _ _)
              exact ⟨j + 1, { m with F0 := F', x := eput m.x [j % 256, j / 256, 0], pv0 := .slice a5 (na + 1) k5, A0 := m.A0 ++ [[j % 256, j / 256, 0]] }, rfl, by go_num, hid (by have := Hd.out; omega), hid A6, hid (HI.out.put HLT.out _ rfl), hid (by obtain ⟨f1, f2, f3, f4⟩ := HF.out; exact ⟨by simp; omega, by simp; omega, by simp; omega, by simp; omega⟩), hid (All.after (All.after HU4.out HA4.out (i := 2) rfl HU5.out hB) AL5.out (i := 8) rfl u6 hB)⟩
        · have bd := body3 wr j 0 0 rfl
          have HA1 := hid (HA.out.new ((Upd.refl [] wr).alloc (.cells #[.int .u8 ((j : Int) % 256), .int .u8 ((j : Int) / 256), .int .u8 0] 5)))
          have HU1 := hid (HU.out.alloc (.cells #[.int .u8 ((j : Int) % 256), .int .u8 ((j : Int) / 256), .int .u8 0] 5))
          have HBD := hid bd
          clear bd
          by_cases hfull : m.x.kept.length = m.x.window
          · have HFL := hid hfull
            clear hfull
            go_wp2_with fail
            refine (a_full HA1.out (i := 0) rfl _ 3 3 (by omega) HFL.out).mono ?_
            rintro e w4 ⟨rfl, ha, hu⟩
            have HA4 := hid ha
            have HU4 := hid (HU1.out.trans hu (fun t ht => by cases ht))
            clear ha hu
            go_wp2_with fail
            go_roundg (n - (j + 1))
            case measure => have := Hd.out; omega
            case rel => exact ⟨j + 1, m, rfl, by go_num, hid (by have := Hd.out; omega), HA4, hid HI.out, hid (by obtain ⟨f1, f2, f3, f4⟩ := HF.out; exact ⟨by omega, by omega, by omega, by omega⟩), HU4⟩
          · have HLT : Hid (m.x.kept.length < m.x.window) := hid (by have := HI.out.fx.kept; omega)
            clear hfull
            go_wp2_with fail
            refine (a_put HA1.out (i := 0) rfl HBD.out (by simp) HLT.out HI.out.fx.win).mono ?_
            rintro e w4 ⟨F', rfl, ha, hu, nb⟩
            have HA4 := hid ha
            have HU4 := hid (All.after HU1.out HA1.out (i := 0) rfl hu hB)
            have HB4 := hid (HBD.out.upd hu nb)
            clear ha hu nb
            obtain ⟨vs, ow, bs⟩ := HA4.out.hold 2 _ rfl
            obtain ⟨na, hna⟩ : ∃ na, na = m.A0.length := ⟨_, rfl⟩
            have OW : Hid (w4.ownsRow 0 29 1 m.pv0 na vs) := hid (by rw [hna]; exact ow)
            have BS := hid bs
            have c8 := HA4.out.hold 8 _ rfl
            have c8a : w4.cell? ⟨Q8, 0, none⟩ = some m.pv0 := (blk_cell c8 0).trans rfl
            have na3 : na ≤ 300 := by obtain ⟨f1, f2, f3, f4⟩ := HF.out; omega
            have HNA := hid hna
            clear ow bs c8 hna
            go_wp2_with (first | (at_builtin; refine wpList_app (W := w4) rfl (.tmp 82) (.tmp 84) 37 rfl 0 29 i29 _ 1 24 Try.underlying37 HI29.out HA29.out HB29.out HC29.out rfl (by decide) m.pv0 na vs rfl OW.out [.slice (some ⟨wr.heap.size, 0, none⟩) 3 3] 29 (by first | rfl | (rw [World.size_alloc]; rfl)) rfl (by intro u hu; simp at hu; subst hu; rfl) (by omega) (by omega) (by omega) ?_; intro v5 w5 ho hu5 hl5; obtain ⟨a5, k5, e5, -⟩ := own_view ho; subst e5; have HO5 := hid ho; have HU5 := hid hu5; have HL5 := hid hl5; have al5 := HA4.out.set (i := 2) (a' := rowI (.slice a5 (na + 1) k5) (m.A0 ++ [[j % 256, j / 256, 0]])) rfl hu5 ⟨_, by rw [List.length_append, ← HNA.out]; exact ho, (BS.out.upd hu5 (fun s hs => Itm.nob _ (HA4.out.hold 2 _ rfl) s hs)).snoc (HB4.out.upd hu5 (fun s hs => Itm.nob _ (HA4.out.hold 2 _ rfl) s hs))⟩ (fun s hs => (hl5 s (by simpa [rowI] using hs)).imp (fun q => by simpa [rowI] using q) id); have AL5 := hid al5; have c8 := al5.hold 8 _ rfl; have c8b := (blk_cell c8 0).trans rfl; have c8f := blk_frozen c8; clear ho hu5 hl5 al5 c8))
            go_roundg (n - (j + 1))
            case measure => have := Hd.out; omega
            case rel =>
              have u6 : Upd [Q8] w5 (w5.setCell ⟨Q8, 0, none⟩ (.slice a5 (na + 1) k5)) := (Upd.refl _ _).setCell (.inl (by simp)) _
              have A6 := AL5.out.set (i := 8) (a' := blkI Q8 #[.slice a5 (na + 1) k5, m.pv1] 46 (by decide)) rfl u6 (blk_set (AL5.out.hold 8 _ rfl) 0 _) (Fresh.refl _ _)
              exact ⟨j + 1, { m with F0 := F', x := eput m.x [j % 256, j / 256, 0], pv0 := .slice a5 (na + 1) k5, A0 := m.A0 ++ [[j % 256, j / 256, 0]] }, rfl, by go_num, hid (by have := Hd.out; omega), hid A6, hid (HI.out.put HLT.out _ rfl), hid (by obtain ⟨f1, f2, f3, f4⟩ := HF.out; exact ⟨by simp; omega, by simp; omega, by simp; omega, by simp; omega⟩), hid (All.after (All.after HU4.out HA4.out (i := 2) rfl HU5.out hB) AL5.out (i := 8) rfl u6 hB)⟩
        · have HAN : Hid (∀ k, All Q8 (wr.drewN k) (m.lst gx gy Q8 Q9 Q11 Q12)) := hid (fun k => HA.out.new ((Upd.refl [] wr).drewN k))
          have OK : Hid (m.x.Ok) := hid (HI.out.ok (by obtain ⟨f1, f2, f3, f4⟩ := HF.out; omega) (by obtain ⟨f1, f2, f3, f4⟩ := HF.out; omega))
          have hop : m.x.out.length ≤ 16 := out_len _ (Nat.le_trans HI.out.fx.kept HI.out.fx.win)
          have HOP := hid hop
          clear hop
          go_upto_region 21 with (fail)
          have hw1 : IntKind.i64.wrap 1 = 1 := by decide
          have hw0 : IntKind.i64.wrap 0 = 0 := by decide
          refine J.J_begin (fun wz => wz.cell? ⟨Q12, 1, none⟩ = some m.wv1) 10 (by kernel_rfl) ⟨by kernel_rfl, by kernel_rfl, by kernel_rfl⟩ ((blk_cell ((HAN.out 1).hold 11 _ rfl) 1).trans rfl) (fun LAST HS => ?_)
          refine J.J_take (i := 0) (v := ?_) LAST (by rfl) (by decide) (by kernel_rfl) (by kernel_rfl) (by intro _ _ _ h; exact h) HS (Or.inl ⟨by rfl, ?_⟩) ?_
          rotate_left
          · intro w hSw; (try dsimp only at hSw); go_simp; try with_reducible rfl
          try simp only [Act.put, List.setIfInBounds_toArray, List.set_cons_zero, List.set_cons_succ]
          refine J.J_take (i := 1) (v := ?_) LAST (by rfl) (by decide) (by kernel_rfl) (by kernel_rfl) (by intro _ _ _ h; exact h) HS (Or.inl ⟨by rfl, ?_⟩) ?_
          rotate_left
          · intro w hSw; (try dsimp only at hSw); go_simp; try with_reducible rfl
          try simp only [Act.put, List.setIfInBounds_toArray, List.set_cons_zero, List.set_cons_succ]
          refine J.J_take (i := 2) (v := ?_) LAST (by rfl) (by decide) (by kernel_rfl) (by kernel_rfl) (by intro _ _ _ h; exact h) HS (Or.inl ⟨by rfl, ?_⟩) ?_
          rotate_left
          · intro w hSw; (try dsimp only at hSw); go_simp; try with_reducible rfl
          try simp only [Act.put, List.setIfInBounds_toArray, List.set_cons_zero, List.set_cons_succ]
          refine J.J_take (i := 3) (v := ?_) LAST (by rfl) (by decide) (by kernel_rfl) (by kernel_rfl) (by intro _ _ _ h; exact h) HS (Or.inl ⟨by rfl, ?_⟩) ?_
          rotate_left
          · intro w hSw; (try dsimp only at hSw); go_simp; try with_reducible rfl
          try simp only [Act.put, List.setIfInBounds_toArray, List.set_cons_zero, List.set_cons_succ]
          refine J.J_take (i := 4) (v := ?_) LAST (by rfl) (by decide) (by kernel_rfl) (by kernel_rfl) (by intro _ _ _ h; exact h) HS (Or.inl ⟨by rfl, ?_⟩) ?_
          rotate_left
          · intro w hSw; (try dsimp only at hSw); go_simp; try with_reducible rfl
          try simp only [Act.put, List.setIfInBounds_toArray, List.set_cons_zero, List.set_cons_succ]
          refine J.J_take (i := 5) (v := ?_) LAST (by rfl) (by decide) (by kernel_rfl) (by kernel_rfl) (by intro _ _ _ h; exact h) HS (Or.inl ⟨by rfl, ?_⟩) ?_
          rotate_left
          · intro w hSw; (try dsimp only at hSw); go_simp; try with_reducible rfl
          try simp only [Act.put, List.setIfInBounds_toArray, List.set_cons_zero, List.set_cons_succ]
          refine J.J_take (i := 6) (v := ?_) LAST (by rfl) (by decide) (by kernel_rfl) (by kernel_rfl) (by intro _ _ _ h; exact h) HS (Or.inl ⟨by rfl, ?_⟩) ?_
          rotate_left
          · intro w hSw; (try dsimp only at hSw); go_simp; try with_reducible rfl
          try simp only [Act.put, List.setIfInBounds_toArray, List.set_cons_zero, List.set_cons_succ]
          refine J.J_one (i := 7) (by rfl) (by decide) (by kernel_rfl) (fun KK hK => ?_)
          go_simp
          refine (a_out (HAN.out 1) (i := 0) rfl OK.out).mono ?_
          rintro e w4 ⟨v, rfl, ⟨us2, po, pb⟩, ha, hu⟩
          have HA4 := hid ha
          have HU4 := hid (All.after (HU.out.drewN 1) (HAN.out 1) (i := 0) rfl hu hB)
          obtain ⟨us, og, bg⟩ := ha.hold 7 _ rfl
          have usl : us.length = m.W1.length := IsPks.len bg og
          have usl2 : us2.length = m.x.out.length := IsPks.len pb po
          obtain ⟨nw, hnw⟩ : ∃ nw, nw = m.W1.length := ⟨_, rfl⟩
          obtain ⟨np, hnp⟩ : ∃ np, np = m.x.out.length := ⟨_, rfl⟩
          have OG : Hid (w4.ownsRow 0 34 5 m.wv1 nw (pkCells m.W1 us)) := hid (by rw [hnw]; exact og)
          have OR : Hid (w4.ownsRow (wr.drewN 1).heap.size 34 5 v np (pkCells m.x.out us2)) := hid (by rw [hnp]; exact po)
          have BG := hid bg
          have BR := hid pb
          have UL := hid usl
          have UL2 := hid usl2
          have HNW := hid hnw
          have HNP := hid hnp
          have hnw2 : nw ≤ 4800 := by obtain ⟨f1, f2, f3, f4⟩ := HF.out; omega
          have hnp2 : np ≤ 16 := by have := HOP.out; omega
          have HS1 : w4.cell? ⟨Q12, 1, none⟩ = some m.wv1 := (blk_cell (ha.hold 11 _ rfl) 1).trans rfl
          obtain ⟨va, vk, ev, -⟩ := own_view OR.out
          subst ev
          clear ha hu og bg po pb hnw hnp usl usl2
          go_wp2_with fail
          refine hK.out _ _ HS1 ?_
          clear hK KK HS
          try simp only [List.setIfInBounds_toArray]
          refine J.J_one (i := 8) (by rfl) (by decide) (by kernel_rfl) (fun KK hK => ?_)
          refine step_app_row rfl (.tmp 95) (.tmp 97) 30 rfl 34 i34 _ 5 48 Try.underlying30 HI34.out HA34.out HB34.out HC34.out rfl (by decide) m.wv1 nw _ (by rfl) OG.out (.slice va np vk) np _ _ (by rfl) OR.out (pkCells_one _ _ (Bodies.ones BR.out)) (by unfold maxLen; omega) (by omega) ?_
          intro v5 w5 ho hu5 hl5
          obtain ⟨a5, k5, e5, -⟩ := own_view ho
          subst e5
          have HU5 := hid hu5
          have al5 := HA4.out.set (i := 7) (a' := pksI (.slice a5 (nw + np) k5) (m.W1 ++ m.x.out)) rfl hu5 ⟨us ++ us2, by rw [pkCells_append _ _ _ _ UL.out, List.length_append, ← HNW.out, ← HNP.out]; exact ho, by rw [List.map_append]; exact (BG.out.upd hu5 (fun s hs => Itm.nob _ (HA4.out.hold 7 _ rfl) s hs)).append (BR.out.upd hu5 (fun s hs => Itm.nob _ (HA4.out.hold 7 _ rfl) s hs))⟩ (fun s hs => (hl5 s (by simpa [pksI] using hs)).imp (fun q => by simpa [pksI] using q) id)
          have AL5 := hid al5
          have c9 := al5.hold 11 _ rfl
          have HS5 : w5.cell? ⟨Q12, 1, none⟩ = some m.wv1 := (blk_cell c9 1).trans rfl
          have c9f := blk_frozen c9
          clear ho hu5 hl5 al5 c9
          refine hK.out _ _ HS5 ?_
          clear hK KK HS1
          try simp only [Act.put, List.setIfInBounds_toArray, List.set_cons_zero, List.set_cons_succ]
          refine J.J_take (i := 9) (v := ?_) LAST (by rfl) (by decide) (by kernel_rfl) (by kernel_rfl) (by intro _ _ _ h; exact h) HS5 (Or.inl ⟨by rfl, ?_⟩) ?_
          rotate_left
          · intro w hSw; (try dsimp only at hSw); go_simp; try with_reducible rfl
          try simp only [Act.put, List.setIfInBounds_toArray, List.set_cons_zero, List.set_cons_succ]
          refine J.J_last (by rfl) (by kernel_rfl) (by kernel_rfl) ?_
          go_simp
          go_wp2_with fail
          go_roundg (n - (j + 1))
          case measure => have := Hd.out; omega
          case rel =>
            have u6 : Upd [Q12] w5 (w5.setCell ⟨Q12, 1, none⟩ (.slice a5 (nw + np) k5)) := (Upd.refl _ _).setCell (.inl (by simp)) _
            have A6 := AL5.out.set (i := 11) (a' := blkI Q12 #[m.wv0, .slice a5 (nw + np) k5] 81 (by decide)) rfl u6 (blk_set (AL5.out.hold 11 _ rfl) 1 _) (Fresh.refl _ _)
            exact ⟨j + 1, { m with x := m.x.outE, wv1 := .slice a5 (nw + np) k5, W1 := m.W1 ++ m.x.out }, rfl, by go_num, hid (by have := Hd.out; omega), hid A6, hid HI.out.said, hid (by have h1 := HOP.out; obtain ⟨f1, f2, f3, f4⟩ := HF.out; exact ⟨by show m.A0.length ≤ _; omega, by show m.A1.length ≤ _; omega, by simp; omega, by simp; omega⟩), hid (All.after (All.after HU4.out HA4.out (i := 7) rfl HU5.out hB) AL5.out (i := 11) rfl u6 hB)⟩
        · have HAN : Hid (∀ k, All Q8 (wr.drewN k) (m.lst gx gy Q8 Q9 Q11 Q12)) := hid (fun k => HA.out.new ((Upd.refl [] wr).drewN k))
          have OK : Hid (m.x.Ok) := hid (HI.out.ok (by obtain ⟨f1, f2, f3, f4⟩ := HF.out; omega) (by obtain ⟨f1, f2, f3, f4⟩ := HF.out; omega))
          have hop : m.x.out.length ≤ 16 := out_len _ (Nat.le_trans HI.out.fx.kept HI.out.fx.win)
          have HOP := hid hop
          clear hop
          go_upto_region 21 with (fail)
          have hw1 : IntKind.i64.wrap 1 = 1 := by decide
          have hw0 : IntKind.i64.wrap 0 = 0 := by decide
          refine J.J_begin (fun wz => wz.cell? ⟨Q12, 1, none⟩ = some m.wv1) 10 (by kernel_rfl) ⟨by kernel_rfl, by kernel_rfl, by kernel_rfl⟩ ((blk_cell ((HAN.out 1).hold 11 _ rfl) 1).trans rfl) (fun LAST HS => ?_)
          refine J.J_take (i := 0) (v := ?_) LAST (by rfl) (by decide) (by kernel_rfl) (by kernel_rfl) (by intro _ _ _ h; exact h) HS (Or.inl ⟨by rfl, ?_⟩) ?_
          rotate_left
          · intro w hSw; (try dsimp only at hSw); go_simp; try with_reducible rfl
          try simp only [Act.put, List.setIfInBounds_toArray, List.set_cons_zero, List.set_cons_succ]
          refine J.J_take (i := 1) (v := ?_) LAST (by rfl) (by decide) (by kernel_rfl) (by kernel_rfl) (by intro _ _ _ h; exact h) HS (Or.inl ⟨by rfl, ?_⟩) ?_
          rotate_left
          · intro w hSw; (try dsimp only at hSw); go_simp; try with_reducible rfl
          try simp only [Act.put, List.setIfInBounds_toArray, List.set_cons_zero, List.set_cons_succ]
          refine J.J_take (i := 2) (v := ?_) LAST (by rfl) (by decide) (by kernel_rfl) (by kernel_rfl) (by intro _ _ _ h; exact h) HS (Or.inl ⟨by rfl, ?_⟩) ?_
          rotate_left
          · intro w hSw; (try dsimp only at hSw); go_simp; try with_reducible rfl
          try simp only [Act.put, List.setIfInBounds_toArray, List.set_cons_zero, List.set_cons_succ]
          refine J.J_take (i := 3) (v := ?_) LAST (by rfl) (by decide) (by kernel_rfl) (by kernel_rfl) (by intro _ _ _ h; exact h) HS (Or.inl ⟨by rfl, ?_⟩) ?_
          rotate_left
          · intro w hSw; (try dsimp only at hSw); go_simp; try with_reducible rfl
          try simp only [Act.put, List.setIfInBounds_toArray, List.set_cons_zero, List.set_cons_succ]
          refine J.J_take (i := 4) (v := ?_) LAST (by rfl) (by decide) (by kernel_rfl) (by kernel_rfl) (by intro _ _ _ h; exact h) HS (Or.inl ⟨by rfl, ?_⟩) ?_
          rotate_left
          · intro w hSw; (try dsimp only at hSw); go_simp; try with_reducible rfl
          try simp only [Act.put, List.setIfInBounds_toArray, List.set_cons_zero, List.set_cons_succ]
          refine J.J_take (i := 5) (v := ?_) LAST (by rfl) (by decide) (by kernel_rfl) (by kernel_rfl) (by intro _ _ _ h; exact h) HS (Or.inl ⟨by rfl, ?_⟩) ?_
          rotate_left
          · intro w hSw; (try dsimp only at hSw); go_simp; try with_reducible rfl
          try simp only [Act.put, List.setIfInBounds_toArray, List.set_cons_zero, List.set_cons_succ]
          refine J.J_take (i := 6) (v := ?_) LAST (by rfl) (by decide) (by kernel_rfl) (by kernel_rfl) (by intro _ _ _ h; exact h) HS (Or.inl ⟨by rfl, ?_⟩) ?_
          rotate_left
          · intro w hSw; (try dsimp only at hSw); go_simp; try with_reducible rfl
          try simp only [Act.put, List.setIfInBounds_toArray, List.set_cons_zero, List.set_cons_succ]
          refine J.J_one (i := 7) (by rfl) (by decide) (by kernel_rfl) (fun KK hK => ?_)
          go_simp
          refine (a_out (HAN.out 1) (i := 0) rfl OK.out).mono ?_
          rintro e w4 ⟨v, rfl, ⟨us2, po, pb⟩, ha, hu⟩
          have HA4 := hid ha
          have HU4 := hid (All.after (HU.out.drewN 1) (HAN.out 1) (i := 0) rfl hu hB)
          obtain ⟨us, og, bg⟩ := ha.hold 7 _ rfl
          have usl : us.length = m.W1.length := IsPks.len bg og
          have usl2 : us2.length = m.x.out.length := IsPks.len pb po
          obtain ⟨nw, hnw⟩ : ∃ nw, nw = m.W1.length := ⟨_, rfl⟩
          obtain ⟨np, hnp⟩ : ∃ np, np = m.x.out.length := ⟨_, rfl⟩
          have OG : Hid (w4.ownsRow 0 34 5 m.wv1 nw (pkCells m.W1 us)) := hid (by rw [hnw]; exact og)
          have OR : Hid (w4.ownsRow (wr.drewN 1).heap.size 34 5 v np (pkCells m.x.out us2)) := hid (by rw [hnp]; exact po)
          have BG := hid bg
          have BR := hid pb
          have UL := hid usl
          have UL2 := hid usl2
          have HNW := hid hnw
          have HNP := hid hnp
          have hnw2 : nw ≤ 4800 := by obtain ⟨f1, f2, f3, f4⟩ := HF.out; omega
          have hnp2 : np ≤ 16 := by have := HOP.out; omega
          have HS1 : w4.cell? ⟨Q12, 1, none⟩ = some m.wv1 := (blk_cell (ha.hold 11 _ rfl) 1).trans rfl
          obtain ⟨va, vk, ev, -⟩ := own_view OR.out
          subst ev
          clear ha hu og bg po pb hnw hnp usl usl2
          go_wp2_with fail
          refine hK.out _ _ HS1 ?_
          clear hK KK HS
          try simp only [List.setIfInBounds_toArray]
          refine J.J_one (i := 8) (by rfl) (by decide) (by kernel_rfl) (fun KK hK => ?_)
          refine step_app_row rfl (.tmp 95) (.tmp 97) 30 rfl 34 i34 _ 5 48 Try.underlying30 HI34.out HA34.out HB34.out HC34.out rfl (by decide) m.wv1 nw _ (by rfl) OG.out (.slice va np vk) np _ _ (by rfl) OR.out (pkCells_one _ _ (Bodies.ones BR.out)) (by unfold maxLen; omega) (by omega) ?_
          intro v5 w5 ho hu5 hl5
          obtain ⟨a5, k5, e5, -⟩ := own_view ho
          subst e5
          have HU5 := hid hu5
          have al5 := HA4.out.set (i := 7) (a' := pksI (.slice a5 (nw + np) k5) (m.W1 ++ m.x.out)) rfl hu5 ⟨us ++ us2, by rw [pkCells_append _ _ _ _ UL.out, List.length_append, ← HNW.out, ← HNP.out]; exact ho, by rw [List.map_append]; exact (BG.out.upd hu5 (fun s hs => Itm.nob _ (HA4.out.hold 7 _ rfl) s hs)).append (BR.out.upd hu5 (fun s hs => Itm.nob _ (HA4.out.hold 7 _ rfl) s hs))⟩ (fun s hs => (hl5 s (by simpa [pksI] using hs)).imp (fun q => by simpa [pksI] using q) id)
          have AL5 := hid al5
          have c9 := al5.hold 11 _ rfl
          have HS5 : w5.cell? ⟨Q12, 1, none⟩ = some m.wv1 := (blk_cell c9 1).trans rfl
          have c9f := blk_frozen c9
          clear ho hu5 hl5 al5 c9
          refine hK.out _ _ HS5 ?_
          clear hK KK HS1
          try simp only [Act.put, List.setIfInBounds_toArray, List.set_cons_zero, List.set_cons_succ]
          refine J.J_take (i := 9) (v := ?_) LAST (by rfl) (by decide) (by kernel_rfl) (by kernel_rfl) (by intro _ _ _ h; exact h) HS5 (Or.inl ⟨by rfl, ?_⟩) ?_
          rotate_left
          · intro w hSw; (try dsimp only at hSw); go_simp; try with_reducible rfl
          try simp only [Act.put, List.setIfInBounds_toArray, List.set_cons_zero, List.set_cons_succ]
          refine J.J_last (by rfl) (by kernel_rfl) (by kernel_rfl) ?_
          go_simp
          go_wp2_with fail
          go_roundg (n - (j + 1))
          case measure => have := Hd.out; omega
          case rel =>
            have u6 : Upd [Q12] w5 (w5.setCell ⟨Q12, 1, none⟩ (.slice a5 (nw + np) k5)) := (Upd.refl _ _).setCell (.inl (by simp)) _
            have A6 := AL5.out.set (i := 11) (a' := blkI Q12 #[m.wv0, .slice a5 (nw + np) k5] 81 (by decide)) rfl u6 (blk_set (AL5.out.hold 11 _ rfl) 1 _) (Fresh.refl _ _)
            exact ⟨j + 1, { m with x := m.x.outE, wv1 := .slice a5 (nw + np) k5, W1 := m.W1 ++ m.x.out }, rfl, by go_num, hid (by have := Hd.out; omega), hid A6, hid HI.out.said, hid (by have h1 := HOP.out; obtain ⟨f1, f2, f3, f4⟩ := HF.out; exact ⟨by show m.A0.length ≤ _; omega, by show m.A1.length ≤ _; omega, by simp; omega, by simp; omega⟩), hid (All.after (All.after HU4.out HA4.out (i := 7) rfl HU5.out hB) AL5.out (i := 11) rfl u6 hB)⟩
        · have hpk : IsPks wr 0 m.wv0 m.W0 := HA.out.hold 6 _ rfl
          obtain ⟨wa, wk, ew, wl1, wl2⟩ := hpk.shape
          have c12 := HA.out.hold 11 _ rfl
          obtain ⟨nw, hnw⟩ : ∃ nw, nw = m.W0.length := ⟨_, rfl⟩
          have c12a : wr.cell? ⟨Q12, 0, none⟩ = some (.slice wa nw wk) := by rw [hnw, ← ew]; exact (blk_cell c12 0).trans rfl
          have hnw2 : nw ≤ 4800 := by obtain ⟨f1, f2, f3, f4⟩ := HF.out; omega
          have HPK := hid hpk
          have HEW := hid ew
          have HNW := hid hnw
          rw [← hnw] at wl1
          clear hpk c12 ew hnw
          by_cases h0 : nw = 0
          · subst h0
            go_wp2_with fail
            go_roundg (n - (j + 1))
            case measure => have := Hd.out; omega
            case rel => exact ⟨j + 1, m, rfl, by go_num, hid (by have := Hd.out; omega), HA, hid HI.out, hid (by obtain ⟨f1, f2, f3, f4⟩ := HF.out; exact ⟨by show m.A0.length ≤ _; omega, by show m.A1.length ≤ _; omega, by show m.W0.length ≤ _; omega, by show m.W1.length ≤ _; omega⟩), HU⟩
          · have h0' : ((nw : Int) == 0) = false := by rw [beq_eq_false_iff_ne]; omega
            go_wp2_with fail
            refine (rest_some _ _ _ (by omega) (by omega)).mono ?_
            rintro e w' ⟨q, hq, -, rfl, rfl⟩
            have hq2 : q < m.W0.length := by have := HNW.out; omega
            obtain ⟨g2, k2, u, e1, _, _, c0, c1, c2, c3, c4, hb⟩ := HPK.out.get (i := q) hq2
            have e2 := HEW.out.symm.trans e1
            simp only [Value.slice.injEq] at e2
            obtain ⟨rfl, -, rfl⟩ := e2
            obtain ⟨p, hp⟩ : ∃ p, p = m.W0.getD q noPk := ⟨_, rfl⟩
            rw [← hp] at c0 c1 c2 c3 hb
            have hpm : p ∈ m.W0 := by rw [hp, List.getD_eq_getElem?_getD, List.getElem?_eq_getElem hq2]; exact List.getElem_mem _
            obtain ⟨-, p2, p3, p4, p5⟩ := HI.out.yx.pk p hpm
            have hw1 := HI.out.xy.wa
            have hw2 := HI.out.yx.wa
            have HPM := hid hpm
            have HB := hid hb
            obtain ⟨ua, uk, eu, -⟩ := id hb
            obtain ⟨bl, hbl⟩ : ∃ bl, bl = p.body.length := ⟨_, rfl⟩
            rw [← hbl] at eu
            subst eu
            have OK : Hid (m.x.Ok) := hid (HI.out.ok (by obtain ⟨f1, f2, f3, f4⟩ := HF.out; omega) (by obtain ⟨f1, f2, f3, f4⟩ := HF.out; omega))
            have BND : Hid (p.window ≤ 16 ∧ p.body.length ≤ 1048576 ∧ p.ack ≤ 1000000 ∧ p.seq ≤ 1000000 ∧ m.x.told ≤ 100) := hid (by
              obtain ⟨f1, f2, f3, f4⟩ := HF.out
              have t1 := HI.out.xy.told
              have t2 := HI.out.fx.kept
              have t3 := HI.out.fx.win
              have t4 := HI.out.xy.wa
              have t5 := HI.out.yx.wa
              exact ⟨p3, by omega, by omega, by omega, by omega⟩)
            have HQ2 := hid hq2
            clear hp hpm hb hbl e1 p2 p3 p4 p5 hq2 hw1 hw2
            go_wp2_with fail
            refine (a_come HA.out (i := 0) rfl OK.out p _ HB.out BND.out.1 BND.out.2.1 BND.out.2.2.1 BND.out.2.2.2.1 BND.out.2.2.2.2).mono ?_
            rintro e w4 ⟨F', rfl, ha, hu⟩
            have HA4 := hid ha
            have HU4 := hid (All.after HU.out HA.out (i := 0) rfl hu hB)
            have c12 := ha.hold 11 _ rfl
            have c12b : w4.cell? ⟨Q12, 0, none⟩ = some (.slice (some ⟨g2, 0, none⟩) nw wk) := by rw [HNW.out, ← HEW.out]; exact (blk_cell c12 0).trans rfl
            have c12f := blk_frozen c12
            clear ha hu c0 c1 c2 c3 c4 c12 c12a
            go_wp2_with fail
            refine (rest_some _ _ _ (by omega) (by omega)).mono ?_
            rintro e w' ⟨rt, hrt, -, rfl, rfl⟩
            by_cases hr0 : rt = 0
            · subst hr0
              go_wp2_with fail
              go_roundg (n - (j + 1))
              case measure => have := Hd.out; omega
              case rel => exact ⟨j + 1, { m with F0 := F', x := m.x.come p }, rfl, by go_num, hid (by have := Hd.out; omega), HA4, hid (HI.out.come HPM.out), hid (by obtain ⟨f1, f2, f3, f4⟩ := HF.out; exact ⟨by show m.A0.length ≤ _; omega, by show m.A1.length ≤ _; omega, by show m.W0.length ≤ _; omega, by show m.W1.length ≤ _; omega⟩), HU4⟩
            · have hr1 : (0 : Int) < (rt : Int) := by omega
              clear hr0
              have hpk4 : IsPks w4 0 m.wv0 m.W0 := HA4.out.hold 6 _ rfl
              have DL := hid (delete_pk hpk4 HQ2.out (by have := HNW.out; omega))
              clear hpk4
              go_wp2_with fail
              have DL2 := DL.out
              rw [HEW.out, ← HNW.out] at DL2
              refine DL2.mono ?_
              rintro e w5 ⟨v', rfl, d1, d2, d3⟩
              obtain ⟨a5, k5, e5, -⟩ := d1.shape
              obtain ⟨nd, hnd⟩ : ∃ nd, nd = (m.W0.eraseIdx q).length := ⟨_, rfl⟩
              rw [← hnd] at e5
              subst e5
              have d4 : Upd (pksI m.wv0 m.W0).ft w4 w5 := by show Upd m.wv0.ownBlock.toList w4 w5; rw [HEW.out, ← HNW.out]; exact d3
              have al5 := HA4.out.set (i := 6) (a' := pksI (.slice a5 nd k5) (m.W0.eraseIdx q)) rfl d4 d1 (fun s hs => .inl (by
                have h1 := d2 s (by simpa [pksI] using hs)
                show s ∈ m.wv0.ownBlock.toList
                rw [HEW.out, ← HNW.out]
                simpa using h1))
              have D4 := hid d4
              have AL5 := hid al5
              have c9 := al5.hold 11 _ rfl
              have HS5 := (blk_cell c9 0).trans rfl
              have c9f := blk_frozen c9
              have HND := hid hnd
              clear d1 d2 d3 d4 al5 c9 hnd DL2 c12b c12f
              go_wp2_with fail
              go_roundg (n - (j + 1))
              case measure => have := Hd.out; omega
              case rel =>
                have u6 : Upd [Q12] w5 (w5.setCell ⟨Q12, 0, none⟩ (.slice a5 nd k5)) := (Upd.refl _ _).setCell (.inl (by simp)) _
                have A6 := AL5.out.set (i := 11) (a' := blkI Q12 #[.slice a5 nd k5, m.wv1] 81 (by decide)) rfl u6 (blk_set (AL5.out.hold 11 _ rfl) 0 _) (Fresh.refl _ _)
                have hle : (m.W0.eraseIdx q).length ≤ m.W0.length := by rw [List.length_eraseIdx]; split <;> omega
                exact ⟨j + 1, { m with F0 := F', x := m.x.come p, wv0 := .slice a5 nd k5, W0 := m.W0.eraseIdx q }, rfl, by go_num, hid (by have := Hd.out; omega), hid A6, hid ((HI.out.come HPM.out).lose q), hid (by obtain ⟨f1, f2, f3, f4⟩ := HF.out; exact ⟨by show m.A0.length ≤ _; omega, by show m.A1.length ≤ _; omega, by simp only; omega, by simp only; omega⟩), hid (All.after (All.after HU4.out HA4.out (i := 6) rfl D4.out hB) AL5.out (i := 11) rfl u6 hB)⟩
        · have hpk : IsPks wr 0 m.wv0 m.W0 := HA.out.hold 6 _ rfl
          obtain ⟨wa, wk, ew, wl1, wl2⟩ := hpk.shape
          have c12 := HA.out.hold 11 _ rfl
          obtain ⟨nw, hnw⟩ : ∃ nw, nw = m.W0.length := ⟨_, rfl⟩
          have c12a : wr.cell? ⟨Q12, 0, none⟩ = some (.slice wa nw wk) := by rw [hnw, ← ew]; exact (blk_cell c12 0).trans rfl
          have hnw2 : nw ≤ 4800 := by obtain ⟨f1, f2, f3, f4⟩ := HF.out; omega
          have HPK := hid hpk
          have HEW := hid ew
          have HNW := hid hnw
          rw [← hnw] at wl1
          clear hpk c12 ew hnw
          by_cases h0 : nw = 0
          · subst h0
            go_wp2_with fail
            go_roundg (n - (j + 1))
            case measure => have := Hd.out; omega
            case rel => exact ⟨j + 1, m, rfl, by go_num, hid (by have := Hd.out; omega), HA, hid HI.out, hid (by obtain ⟨f1, f2, f3, f4⟩ := HF.out; exact ⟨by show m.A0.length ≤ _; omega, by show m.A1.length ≤ _; omega, by show m.W0.length ≤ _; omega, by show m.W1.length ≤ _; omega⟩), HU⟩
          · have h0' : ((nw : Int) == 0) = false := by rw [beq_eq_false_iff_ne]; omega
            go_wp2_with fail
            refine (rest_some _ _ _ (by omega) (by omega)).mono ?_
            rintro e w' ⟨q, hq, -, rfl, rfl⟩
            have hq2 : q < m.W0.length := by have := HNW.out; omega
            obtain ⟨g2, k2, u, e1, _, _, c0, c1, c2, c3, c4, hb⟩ := HPK.out.get (i := q) hq2
            have e2 := HEW.out.symm.trans e1
            simp only [Value.slice.injEq] at e2
            obtain ⟨rfl, -, rfl⟩ := e2
            obtain ⟨p, hp⟩ : ∃ p, p = m.W0.getD q noPk := ⟨_, rfl⟩
            rw [← hp] at c0 c1 c2 c3 hb
            have hpm : p ∈ m.W0 := by rw [hp, List.getD_eq_getElem?_getD, List.getElem?_eq_getElem hq2]; exact List.getElem_mem _
            obtain ⟨-, p2, p3, p4, p5⟩ := HI.out.yx.pk p hpm
            have hw1 := HI.out.xy.wa
            have hw2 := HI.out.yx.wa
            have HPM := hid hpm
            have HB := hid hb
            obtain ⟨ua, uk, eu, -⟩ := id hb
            obtain ⟨bl, hbl⟩ : ∃ bl, bl = p.body.length := ⟨_, rfl⟩
            rw [← hbl] at eu
            subst eu
            have OK : Hid (m.x.Ok) := hid (HI.out.ok (by obtain ⟨f1, f2, f3, f4⟩ := HF.out; omega) (by obtain ⟨f1, f2, f3, f4⟩ := HF.out; omega))
            have BND : Hid (p.window ≤ 16 ∧ p.body.length ≤ 1048576 ∧ p.ack ≤ 1000000 ∧ p.seq ≤ 1000000 ∧ m.x.told ≤ 100) := hid (by
              obtain ⟨f1, f2, f3, f4⟩ := HF.out
              have t1 := HI.out.xy.told
              have t2 := HI.out.fx.kept
              have t3 := HI.out.fx.win
              have t4 := HI.out.xy.wa
              have t5 := HI.out.yx.wa
              exact ⟨p3, by omega, by omega, by omega, by omega⟩)
            have HQ2 := hid hq2
            clear hp hpm hb hbl e1 p2 p3 p4 p5 hq2 hw1 hw2
            go_wp2_with fail
            refine (a_come HA.out (i := 0) rfl OK.out p _ HB.out BND.out.1 BND.out.2.1 BND.out.2.2.1 BND.out.2.2.2.1 BND.out.2.2.2.2).mono ?_
            rintro e w4 ⟨F', rfl, ha, hu⟩
            have HA4 := hid ha
            have HU4 := hid (All.after HU.out HA.out (i := 0) rfl hu hB)
            have c12 := ha.hold 11 _ rfl
            have c12b : w4.cell? ⟨Q12, 0, none⟩ = some (.slice (some ⟨g2, 0, none⟩) nw wk) := by rw [HNW.out, ← HEW.out]; exact (blk_cell c12 0).trans rfl
            have c12f := blk_frozen c12
            clear ha hu c0 c1 c2 c3 c4 c12 c12a
            go_wp2_with fail
            refine (rest_some _ _ _ (by omega) (by omega)).mono ?_
            rintro e w' ⟨rt, hrt, -, rfl, rfl⟩
            by_cases hr0 : rt = 0
            · subst hr0
              go_wp2_with fail
              go_roundg (n - (j + 1))
              case measure => have := Hd.out; omega
              case rel => exact ⟨j + 1, { m with F0 := F', x := m.x.come p }, rfl, by go_num, hid (by have := Hd.out; omega), HA4, hid (HI.out.come HPM.out), hid (by obtain ⟨f1, f2, f3, f4⟩ := HF.out; exact ⟨by show m.A0.length ≤ _; omega, by show m.A1.length ≤ _; omega, by show m.W0.length ≤ _; omega, by show m.W1.length ≤ _; omega⟩), HU4⟩
            · have hr1 : (0 : Int) < (rt : Int) := by omega
              clear hr0
              have hpk4 : IsPks w4 0 m.wv0 m.W0 := HA4.out.hold 6 _ rfl
              have DL := hid (delete_pk hpk4 HQ2.out (by have := HNW.out; omega))
              clear hpk4
              go_wp2_with fail
              have DL2 := DL.out
              rw [HEW.out, ← HNW.out] at DL2
              refine DL2.mono ?_
              rintro e w5 ⟨v', rfl, d1, d2, d3⟩
              obtain ⟨a5, k5, e5, -⟩ := d1.shape
              obtain ⟨nd, hnd⟩ : ∃ nd, nd = (m.W0.eraseIdx q).length := ⟨_, rfl⟩
              rw [← hnd] at e5
              subst e5
              have d4 : Upd (pksI m.wv0 m.W0).ft w4 w5 := by show Upd m.wv0.ownBlock.toList w4 w5; rw [HEW.out, ← HNW.out]; exact d3
              have al5 := HA4.out.set (i := 6) (a' := pksI (.slice a5 nd k5) (m.W0.eraseIdx q)) rfl d4 d1 (fun s hs => .inl (by
                have h1 := d2 s (by simpa [pksI] using hs)
                show s ∈ m.wv0.ownBlock.toList
                rw [HEW.out, ← HNW.out]
                simpa using h1))
              have D4 := hid d4
              have AL5 := hid al5
              have c9 := al5.hold 11 _ rfl
              have HS5 := (blk_cell c9 0).trans rfl
              have c9f := blk_frozen c9
              have HND := hid hnd
              clear d1 d2 d3 d4 al5 c9 hnd DL2 c12b c12f
              go_wp2_with fail
              go_roundg (n - (j + 1))
              case measure => have := Hd.out; omega
              case rel =>
                have u6 : Upd [Q12] w5 (w5.setCell ⟨Q12, 0, none⟩ (.slice a5 nd k5)) := (Upd.refl _ _).setCell (.inl (by simp)) _
                have A6 := AL5.out.set (i := 11) (a' := blkI Q12 #[.slice a5 nd k5, m.wv1] 81 (by decide)) rfl u6 (blk_set (AL5.out.hold 11 _ rfl) 0 _) (Fresh.refl _ _)
                have hle : (m.W0.eraseIdx q).length ≤ m.W0.length := by rw [List.length_eraseIdx]; split <;> omega
                exact ⟨j + 1, { m with F0 := F', x := m.x.come p, wv0 := .slice a5 nd k5, W0 := m.W0.eraseIdx q }, rfl, by go_num, hid (by have := Hd.out; omega), hid A6, hid ((HI.out.come HPM.out).lose q), hid (by obtain ⟨f1, f2, f3, f4⟩ := HF.out; exact ⟨by show m.A0.length ≤ _; omega, by show m.A1.length ≤ _; omega, by simp only; omega, by simp only; omega⟩), hid (All.after (All.after HU4.out HA4.out (i := 6) rfl D4.out hB) AL5.out (i := 11) rfl u6 hB)⟩
        · have hpk : IsPks wr 0 m.wv0 m.W0 := HA.out.hold 6 _ rfl
          obtain ⟨wa, wk, ew, wl1, wl2⟩ := hpk.shape
          have c12 := HA.out.hold 11 _ rfl
          obtain ⟨nw, hnw⟩ : ∃ nw, nw = m.W0.length := ⟨_, rfl⟩
          have c12a : wr.cell? ⟨Q12, 0, none⟩ = some (.slice wa nw wk) := by rw [hnw, ← ew]; exact (blk_cell c12 0).trans rfl
          have hnw2 : nw ≤ 4800 := by obtain ⟨f1, f2, f3, f4⟩ := HF.out; omega
          have HPK := hid hpk
          have HEW := hid ew
          have HNW := hid hnw
          rw [← hnw] at wl1
          clear hpk c12 ew hnw
          by_cases h0 : nw = 0
          · subst h0
            go_wp2_with fail
            go_roundg (n - (j + 1))
            case measure => have := Hd.out; omega
            case rel => exact ⟨j + 1, m, rfl, by go_num, hid (by have := Hd.out; omega), HA, hid HI.out, hid (by obtain ⟨f1, f2, f3, f4⟩ := HF.out; exact ⟨by show m.A0.length ≤ _; omega, by show m.A1.length ≤ _; omega, by show m.W0.length ≤ _; omega, by show m.W1.length ≤ _; omega⟩), HU⟩
          · have h0' : ((nw : Int) == 0) = false := by rw [beq_eq_false_iff_ne]; omega
            go_wp2_with fail
            refine (rest_some _ _ _ (by omega) (by omega)).mono ?_
            rintro e w' ⟨q, hq, -, rfl, rfl⟩
            have hq2 : q < m.W0.length := by have := HNW.out; omega
            obtain ⟨g2, k2, u, e1, _, _, c0, c1, c2, c3, c4, hb⟩ := HPK.out.get (i := q) hq2
            have e2 := HEW.out.symm.trans e1
            simp only [Value.slice.injEq] at e2
            obtain ⟨rfl, -, rfl⟩ := e2
            obtain ⟨p, hp⟩ : ∃ p, p = m.W0.getD q noPk := ⟨_, rfl⟩
            rw [← hp] at c0 c1 c2 c3 hb
            have hpm : p ∈ m.W0 := by rw [hp, List.getD_eq_getElem?_getD, List.getElem?_eq_getElem hq2]; exact List.getElem_mem _
            obtain ⟨-, p2, p3, p4, p5⟩ := HI.out.yx.pk p hpm
            have hw1 := HI.out.xy.wa
            have hw2 := HI.out.yx.wa
            have HPM := hid hpm
            have HB := hid hb
            obtain ⟨ua, uk, eu, -⟩ := id hb
            obtain ⟨bl, hbl⟩ : ∃ bl, bl = p.body.length := ⟨_, rfl⟩
            rw [← hbl] at eu
            subst eu
            have OK : Hid (m.x.Ok) := hid (HI.out.ok (by obtain ⟨f1, f2, f3, f4⟩ := HF.out; omega) (by obtain ⟨f1, f2, f3, f4⟩ := HF.out; omega))
            have BND : Hid (p.window ≤ 16 ∧ p.body.length ≤ 1048576 ∧ p.ack ≤ 1000000 ∧ p.seq ≤ 1000000 ∧ m.x.told ≤ 100) := hid (by
              obtain ⟨f1, f2, f3, f4⟩ := HF.out
              have t1 := HI.out.xy.told
              have t2 := HI.out.fx.kept
              have t3 := HI.out.fx.win
              have t4 := HI.out.xy.wa
              have t5 := HI.out.yx.wa
              exact ⟨p3, by omega, by omega, by omega, by omega⟩)
            have HQ2 := hid hq2
            clear hp hpm hb hbl e1 p2 p3 p4 p5 hq2 hw1 hw2
            go_wp2_with fail
            refine (a_come HA.out (i := 0) rfl OK.out p _ HB.out BND.out.1 BND.out.2.1 BND.out.2.2.1 BND.out.2.2.2.1 BND.out.2.2.2.2).mono ?_
            rintro e w4 ⟨F', rfl, ha, hu⟩
            have HA4 := hid ha
            have HU4 := hid (All.after HU.out HA.out (i := 0) rfl hu hB)
            have c12 := ha.hold 11 _ rfl
            have c12b : w4.cell? ⟨Q12, 0, none⟩ = some (.slice (some ⟨g2, 0, none⟩) nw wk) := by rw [HNW.out, ← HEW.out]; exact (blk_cell c12 0).trans rfl
            have c12f := blk_frozen c12
            clear ha hu c0 c1 c2 c3 c4 c12 c12a
            go_wp2_with fail
            refine (rest_some _ _ _ (by omega) (by omega)).mono ?_
            rintro e w' ⟨rt, hrt, -, rfl, rfl⟩
            by_cases hr0 : rt = 0
            · subst hr0
              go_wp2_with fail
              go_roundg (n - (j + 1))
              case measure => have := Hd.out; omega
              case rel => exact ⟨j + 1, { m with F0 := F', x := m.x.come p }, rfl, by go_num, hid (by have := Hd.out; omega), HA4, hid (HI.out.come HPM.out), hid (by obtain ⟨f1, f2, f3, f4⟩ := HF.out; exact ⟨by show m.A0.length ≤ _; omega, by show m.A1.length ≤ _; omega, by show m.W0.length ≤ _; omega, by show m.W1.length ≤ _; omega⟩), HU4⟩
            · have hr1 : (0 : Int) < (rt : Int) := by omega
              clear hr0
              have hpk4 : IsPks w4 0 m.wv0 m.W0 := HA4.out.hold 6 _ rfl
              have DL := hid (delete_pk hpk4 HQ2.out (by have := HNW.out; omega))
              clear hpk4
              go_wp2_with fail
              have DL2 := DL.out
              rw [HEW.out, ← HNW.out] at DL2
              refine DL2.mono ?_
              rintro e w5 ⟨v', rfl, d1, d2, d3⟩
              obtain ⟨a5, k5, e5, -⟩ := d1.shape
              obtain ⟨nd, hnd⟩ : ∃ nd, nd = (m.W0.eraseIdx q).length := ⟨_, rfl⟩
              rw [← hnd] at e5
              subst e5
              have d4 : Upd (pksI m.wv0 m.W0).ft w4 w5 := by show Upd m.wv0.ownBlock.toList w4 w5; rw [HEW.out, ← HNW.out]; exact d3
              have al5 := HA4.out.set (i := 6) (a' := pksI (.slice a5 nd k5) (m.W0.eraseIdx q)) rfl d4 d1 (fun s hs => .inl (by
                have h1 := d2 s (by simpa [pksI] using hs)
                show s ∈ m.wv0.ownBlock.toList
                rw [HEW.out, ← HNW.out]
                simpa using h1))
              have D4 := hid d4
              have AL5 := hid al5
              have c9 := al5.hold 11 _ rfl
              have HS5 := (blk_cell c9 0).trans rfl
              have c9f := blk_frozen c9
              have HND := hid hnd
              clear d1 d2 d3 d4 al5 c9 hnd DL2 c12b c12f
              go_wp2_with fail
              go_roundg (n - (j + 1))
              case measure => have := Hd.out; omega
              case rel =>
                have u6 : Upd [Q12] w5 (w5.setCell ⟨Q12, 0, none⟩ (.slice a5 nd k5)) := (Upd.refl _ _).setCell (.inl (by simp)) _
                have A6 := AL5.out.set (i := 11) (a' := blkI Q12 #[.slice a5 nd k5, m.wv1] 81 (by decide)) rfl u6 (blk_set (AL5.out.hold 11 _ rfl) 0 _) (Fresh.refl _ _)
                have hle : (m.W0.eraseIdx q).length ≤ m.W0.length := by rw [List.length_eraseIdx]; split <;> omega
                exact ⟨j + 1, { m with F0 := F', x := m.x.come p, wv0 := .slice a5 nd k5, W0 := m.W0.eraseIdx q }, rfl, by go_num, hid (by have := Hd.out; omega), hid A6, hid ((HI.out.come HPM.out).lose q), hid (by obtain ⟨f1, f2, f3, f4⟩ := HF.out; exact ⟨by show m.A0.length ≤ _; omega, by show m.A1.length ≤ _; omega, by simp only; omega, by simp only; omega⟩), hid (All.after (All.after HU4.out HA4.out (i := 6) rfl D4.out hB) AL5.out (i := 11) rfl u6 hB)⟩
        · go_wp2_with fail
          refine (rest_some _ _ _ (by omega) (by omega)).mono ?_
          rintro e w' ⟨rt, hrt, -, rfl, rfl⟩
          have hrt' : rt = 0 ∨ rt = 1 := by omega
          clear hrt
          rcases hrt' with rfl | rfl
          · go_wp2_with fail
            refine (a_tick HA.out (i := 0) rfl).mono ?_
            rintro e w4 ⟨rfl, ha, hu⟩
            have HA4 := hid ha
            have HU4 := hid (All.after HU.out HA.out (i := 0) rfl hu hB)
            clear ha hu
            go_wp2_with fail
            go_roundg (n - (j + 1))
            case measure => have := Hd.out; omega
            case rel => exact ⟨j + 1, { m with x := etick m.x }, rfl, by go_num, hid (by have := Hd.out; omega), HA4, hid HI.out.tick, hid (by obtain ⟨f1, f2, f3, f4⟩ := HF.out; exact ⟨by show m.A0.length ≤ _; omega, by show m.A1.length ≤ _; omega, by show m.W0.length ≤ _; omega, by show m.W1.length ≤ _; omega⟩), HU4⟩
          · have HAN : Hid (∀ k, All Q8 (wr.drewN k) (m.lst gx gy Q8 Q9 Q11 Q12)) := hid (fun k => HA.out.new ((Upd.refl [] wr).drewN k))
            go_upto_region 13 with (fail)
            refine J.J_begin (fun wz => wz.cell? ⟨Q9, 0, none⟩ = some m.gv0) 8 (by kernel_rfl) ⟨by kernel_rfl, by kernel_rfl, by kernel_rfl⟩ ((blk_cell ((HAN.out 1).hold 9 _ rfl) 0).trans rfl) (fun LAST HS => ?_)
            refine J.J_take (i := 0) (v := ?_) LAST (by rfl) (by decide) (by kernel_rfl) (by kernel_rfl) (by intro _ _ _ h; exact h) HS (Or.inl ⟨by rfl, ?_⟩) ?_
            rotate_left
            · intro w hSw; (try dsimp only at hSw); go_simp; try with_reducible rfl
            try simp only [Act.put, List.setIfInBounds_toArray, List.set_cons_zero, List.set_cons_succ]
            refine J.J_take (i := 1) (v := ?_) LAST (by rfl) (by decide) (by kernel_rfl) (by kernel_rfl) (by intro _ _ _ h; exact h) HS (Or.inl ⟨by rfl, ?_⟩) ?_
            rotate_left
            · intro w hSw; (try dsimp only at hSw); go_simp; try with_reducible rfl
            try simp only [Act.put, List.setIfInBounds_toArray, List.set_cons_zero, List.set_cons_succ]
            refine J.J_take (i := 2) (v := ?_) LAST (by rfl) (by decide) (by kernel_rfl) (by kernel_rfl) (by intro _ _ _ h; exact h) HS (Or.inl ⟨by rfl, ?_⟩) ?_
            rotate_left
            · intro w hSw; (try dsimp only at hSw); go_simp; try with_reducible rfl
            try simp only [Act.put, List.setIfInBounds_toArray, List.set_cons_zero, List.set_cons_succ]
            refine J.J_take (i := 3) (v := ?_) LAST (by rfl) (by decide) (by kernel_rfl) (by kernel_rfl) (by intro _ _ _ h; exact h) HS (Or.inl ⟨by rfl, ?_⟩) ?_
            rotate_left
            · intro w hSw; (try dsimp only at hSw); go_simp; try with_reducible rfl
            try simp only [Act.put, List.setIfInBounds_toArray, List.set_cons_zero, List.set_cons_succ]
            refine J.J_take (i := 4) (v := ?_) LAST (by rfl) (by decide) (by kernel_rfl) (by kernel_rfl) (by intro _ _ _ h; exact h) HS (Or.inl ⟨by rfl, ?_⟩) ?_
            rotate_left
            · intro w hSw; (try dsimp only at hSw); go_simp; try with_reducible rfl
            try simp only [Act.put, List.setIfInBounds_toArray, List.set_cons_zero, List.set_cons_succ]
            refine J.J_one (i := 5) (by rfl) (by decide) (by kernel_rfl) (fun KK hK => ?_)
            go_simp
            refine (a_got (HAN.out 1) (i := 0) rfl).mono ?_
            rintro e w4 ⟨F', v, rs, rfl, ow, bs, ha, hu⟩
            have HA4 := hid ha
            have HU4 := hid (All.after (HU.out.drewN 1) (HAN.out 1) (i := 0) rfl hu hB)
            obtain ⟨gs, og, bg⟩ := ha.hold 4 _ rfl
            obtain ⟨ng, hng⟩ : ∃ ng, ng = m.G0.length := ⟨_, rfl⟩
            obtain ⟨nr, hnr⟩ : ∃ nr, nr = m.x.read.length := ⟨_, rfl⟩
            have OG : Hid (w4.ownsRow 0 29 1 m.gv0 ng gs) := hid (by rw [hng]; exact og)
            have OR : Hid (w4.ownsRow 0 29 1 v nr rs) := hid (by rw [hnr]; exact ow)
            have BG := hid bg
            have BR := hid bs
            have HNG := hid hng
            have HNR := hid hnr
            have hlen : ng + nr ≤ 300 := by
              obtain ⟨f1, f2, f3, f4⟩ := HF.out
              have h1 := congrArg List.length (HI.out.yx.got)
              simp only [List.length_append, List.length_take] at h1
              omega
            have HS1 : w4.cell? ⟨Q9, 0, none⟩ = some m.gv0 := (blk_cell (ha.hold 9 _ rfl) 0).trans rfl
            obtain ⟨va, vk, ev, -⟩ := own_view OR.out
            subst ev
            clear ha hu ow bs og bg hng hnr
            go_wp2_with fail
            refine hK.out _ _ HS1 ?_
            clear hK KK HS
            try simp only [List.setIfInBounds_toArray]
            refine J.J_one (i := 6) (by rfl) (by decide) (by kernel_rfl) (fun KK hK => ?_)
            refine step_app_row rfl (.tmp 59) (.tmp 61) 37 rfl 29 i29 _ 1 24 Try.underlying37 HI29.out HA29.out HB29.out HC29.out rfl (by decide) m.gv0 ng gs (by rfl) OG.out (.slice va nr vk) nr 0 rs (by rfl) OR.out BR.out.ones (by unfold maxLen; omega) (by omega) ?_
            intro v5 w5 ho hu5 hl5
            obtain ⟨a5, k5, e5, -⟩ := own_view ho
            subst e5
            have HU5 := hid hu5
            have al5 := HA4.out.set (i := 4) (a' := rowI (.slice a5 (ng + nr) k5) (m.G0 ++ m.x.read)) rfl hu5 ⟨_, by rw [List.length_append, ← HNG.out, ← HNR.out]; exact ho, (BG.out.upd hu5 (fun s hs => Itm.nob _ (HA4.out.hold 4 _ rfl) s hs)).append (BR.out.upd hu5 (fun s hs => Itm.nob _ (HA4.out.hold 4 _ rfl) s hs))⟩ (fun s hs => (hl5 s (by simpa [rowI] using hs)).imp (fun q => by simpa [rowI] using q) id)
            have AL5 := hid al5
            have c9 := al5.hold 9 _ rfl
            have HS5 : w5.cell? ⟨Q9, 0, none⟩ = some m.gv0 := (blk_cell c9 0).trans rfl
            have c9f := blk_frozen c9
            clear ho hu5 hl5 al5 c9
            refine hK.out _ _ HS5 ?_
            clear hK KK HS1
            try simp only [Act.put, List.setIfInBounds_toArray, List.set_cons_zero, List.set_cons_succ]
            refine J.J_take (i := 7) (v := ?_) LAST (by rfl) (by decide) (by kernel_rfl) (by kernel_rfl) (by intro _ _ _ h; exact h) HS5 (Or.inl ⟨by rfl, ?_⟩) ?_
            rotate_left
            · intro w hSw; (try dsimp only at hSw); go_simp; try with_reducible rfl
            try simp only [Act.put, List.setIfInBounds_toArray, List.set_cons_zero, List.set_cons_succ]
            refine J.J_last (by rfl) (by kernel_rfl) (by kernel_rfl) ?_
            go_simp
            go_wp2_with fail
            go_roundg (n - (j + 1))
            case measure => have := Hd.out; omega
            case rel =>
              have u6 : Upd [Q9] w5 (w5.setCell ⟨Q9, 0, none⟩ (.slice a5 (ng + nr) k5)) := (Upd.refl _ _).setCell (.inl (by simp)) _
              have A6 := AL5.out.set (i := 9) (a' := blkI Q9 #[.slice a5 (ng + nr) k5, m.gv1] 46 (by decide)) rfl u6 (blk_set (AL5.out.hold 9 _ rfl) 0 _) (Fresh.refl _ _)
              exact ⟨j + 1, { m with F0 := F', x := egot m.x, gv0 := .slice a5 (ng + nr) k5, G0 := m.G0 ++ m.x.read }, rfl, by go_num, hid (by have := Hd.out; omega), hid A6, hid HI.out.gotten, hid (by obtain ⟨f1, f2, f3, f4⟩ := HF.out; exact ⟨by show m.A0.length ≤ _; omega, by show m.A1.length ≤ _; omega, by show m.W0.length ≤ _; omega, by show m.W1.length ≤ _; omega⟩), hid (All.after (All.after HU4.out HA4.out (i := 4) rfl HU5.out hB) AL5.out (i := 9) rfl u6 hB)⟩
      · go_wp2_with fail
        refine (rest_some _ _ _ (by omega) (by omega)).mono ?_
        rintro e w' ⟨r, hr, -, rfl, rfl⟩
        have hr' : r = 0 ∨ r = 1 ∨ r = 2 ∨ r = 3 ∨ r = 4 ∨ r = 5 ∨ r = 6 ∨ r = 7 := by omega
        clear hr c11a c11b
        rcases hr' with rfl | rfl | rfl | rfl | rfl | rfl | rfl | rfl
        · have bd := body3 wr j 1 1 rfl
          have HA1 := hid (HA.out.new ((Upd.refl [] wr).alloc (.cells #[.int .u8 ((j : Int) % 256), .int .u8 ((j : Int) / 256), .int .u8 1] 5)))
          have HU1 := hid (HU.out.alloc (.cells #[.int .u8 ((j : Int) % 256), .int .u8 ((j : Int) / 256), .int .u8 1] 5))
          have HBD := hid bd
          clear bd
          by_cases hfull : m.y.kept.length = m.y.window
          · have HFL := hid hfull
            clear hfull
            go_wp2_with fail
            refine (a_full HA1.out (i := 1) rfl _ 3 3 (by omega) HFL.out).mono ?_
            rintro e w4 ⟨rfl, ha, hu⟩
            have HA4 := hid ha
            have HU4 := hid (HU1.out.trans hu (fun t ht => by cases ht))
            clear ha hu
            go_wp2_with fail
            go_roundg (n - (j + 1))
            case measure => have := Hd.out; omega
            case rel => exact ⟨j + 1, m, rfl, by go_num, hid (by have := Hd.out; omega), HA4, hid HI.out, hid (by obtain ⟨f1, f2, f3, f4⟩ := HF.out; exact ⟨by omega, by omega, by omega, by omega⟩), HU4⟩
          · have HLT : Hid (m.y.kept.length < m.y.window) := hid (by have := HI.out.swap.fx.kept; omega)
            clear hfull
            go_wp2_with fail
            refine (a_put HA1.out (i := 1) rfl HBD.out (by simp) HLT.out HI.out.swap.fx.win).mono ?_
            rintro e w4 ⟨F', rfl, ha, hu, nb⟩
            have HA4 := hid ha
            have HU4 := hid (All.after HU1.out HA1.out (i := 1) rfl hu hB)
            have HB4 := hid (HBD.out.upd hu nb)
            clear ha hu nb
            obtain ⟨vs, ow, bs⟩ := HA4.out.hold 3 _ rfl
            obtain ⟨na, hna⟩ : ∃ na, na = m.A1.length := ⟨_, rfl⟩
            have OW : Hid (w4.ownsRow 0 29 1 m.pv1 na vs) := hid (by rw [hna]; exact ow)
            have BS := hid bs
            have c8 := HA4.out.hold 8 _ rfl
            have c8a : w4.cell? ⟨Q8, 1, none⟩ = some m.pv1 := (blk_cell c8 1).trans rfl
            have na3 : na ≤ 300 := by obtain ⟨f1, f2, f3, f4⟩ := HF.out; omega
            have HNA := hid hna
            clear ow bs c8 hna
            go_wp2_with (first | (at_builtin; refine wpList_app (W := w4) rfl (.tmp 82) (.tmp 84) 37 rfl 0 29 i29 _ 1 24 Try.underlying37 HI29.out HA29.out HB29.out HC29.out rfl (by decide) m.pv1 na vs rfl OW.out [.slice (some ⟨wr.heap.size, 0, none⟩) 3 3] 29 (by first | rfl | (rw [World.size_alloc]; rfl)) rfl (by intro u hu; simp at hu; subst hu; rfl) (by omega) (by omega) (by omega) ?_; intro v5 w5 ho hu5 hl5; obtain ⟨a5, k5, e5, -⟩ := own_view ho; subst e5; have HO5 := hid ho; have HU5 := hid hu5; have HL5 := hid hl5; have al5 := HA4.out.set (i := 3) (a' := rowI (.slice a5 (na + 1) k5) (m.A1 ++ [[j % 256, j / 256, 1]])) rfl hu5 ⟨_, by rw [List.length_append, ← HNA.out]; exact ho, (BS.out.upd hu5 (fun s hs => Itm.nob _ (HA4.out.hold 3 _ rfl) s hs)).snoc (HB4.out.upd hu5 (fun s hs => Itm.nob _ (HA4.out.hold 3 _ rfl) s hs))⟩ (fun s hs => (hl5 s (by simpa [rowI] using hs)).imp (fun q => by simpa [rowI] using q) id); have AL5 := hid al5; have c8 := al5.hold 8 _ rfl; have c8b := (blk_cell c8 1).trans rfl; have c8f := blk_frozen c8; clear ho hu5 hl5 al5 c8))
            go_roundg (n - (j + 1))
            case measure => have := Hd.out; omega
            case rel =>
              have u6 : Upd [Q8] w5 (w5.setCell ⟨Q8, 1, none⟩ (.slice a5 (na + 1) k5)) := (Upd.refl _ _).setCell (.inl (by simp)) _
              have A6 := AL5.out.set (i := 8) (a' := blkI Q8 #[m.pv0, .slice a5 (na + 1) k5] 46 (by decide)) rfl u6 (blk_set (AL5.out.hold 8 _ rfl) 1 _) (Fresh.refl _ _)
              exact ⟨j + 1, { m with F1 := F', y := eput m.y [j % 256, j / 256, 1], pv1 := .slice a5 (na + 1) k5, A1 := m.A1 ++ [[j % 256, j / 256, 1]] }, rfl, by go_num, hid (by have := Hd.out; omega), hid A6, hid (HI.out.swap.put HLT.out _ rfl).swap, hid (by obtain ⟨f1, f2, f3, f4⟩ := HF.out; exact ⟨by simp; omega, by simp; omega, by simp; omega, by simp; omega⟩), hid (All.after (All.after HU4.out HA4.out (i := 3) rfl HU5.out hB) AL5.out (i := 8) rfl u6 hB)⟩
        · have bd := body3 wr j 1 1 rfl
          have HA1 := hid (HA.out.new ((Upd.refl [] wr).alloc (.cells #[.int .u8 ((j : Int) % 256), .int .u8 ((j : Int) / 256), .int .u8 1] 5)))
          have HU1 := hid (HU.out.alloc (.cells #[.int .u8 ((j : Int) % 256), .int .u8 ((j : Int) / 256), .int .u8 1] 5))
          have HBD := hid bd
          clear bd
          by_cases hfull : m.y.kept.length = m.y.window
          · have HFL := hid hfull
            clear hfull
            go_wp2_with fail
            refine (a_full HA1.out (i := 1) rfl _ 3 3 (by omega) HFL.out).mono ?_
            rintro e w4 ⟨rfl, ha, hu⟩
            have HA4 := hid ha
            have HU4 := hid (HU1.out.trans hu (fun t ht => by cases ht))
            clear ha hu
            go_wp2_with fail
            go_roundg (n - (j + 1))
            case measure => have := Hd.out; omega
            case rel => exact ⟨j + 1, m, rfl, by go_num, hid (by have := Hd.out; omega), HA4, hid HI.out, hid (by obtain ⟨f1, f2, f3, f4⟩ := HF.out; exact ⟨by omega, by omega, by omega, by omega⟩), HU4⟩
          · have HLT : Hid (m.y.kept.length < m.y.window) := hid (by have := HI.out.swap.fx.kept; omega)
            clear hfull
            go_wp2_with fail
            refine (a_put HA1.out (i := 1) rfl HBD.out (by simp) HLT.out HI.out.swap.fx.win).mono ?_
            rintro e w4 ⟨F', rfl, ha, hu, nb⟩
            have HA4 := hid ha
            have HU4 := hid (All.after HU1.out HA1.out (i := 1) rfl hu hB)
            have HB4 := hid (HBD.out.upd hu nb)
            clear ha hu nb
            obtain ⟨vs, ow, bs⟩ := HA4.out.hold 3 _ rfl
            obtain ⟨na, hna⟩ : ∃ na, na = m.A1.length := ⟨_, rfl⟩
            have OW : Hid (w4.ownsRow 0 29 1 m.pv1 na vs) := hid (by rw [hna]; exact ow)
            have BS := hid bs
            have c8 := HA4.out.hold 8 _ rfl
            have c8a : w4.cell? ⟨Q8, 1, none⟩ = some m.pv1 := (blk_cell c8 1).trans rfl
            have na3 : na ≤ 300 := by obtain ⟨f1, f2, f3, f4⟩ := HF.out; omega
            have HNA := hid hna
            clear ow bs c8 hna
            go_wp2_with (first | (at_builtin; refine wpList_app (W := w4) rfl (.tmp 82) (.tmp 84) 37 rfl 0 29 i29 _ 1 24 Try.underlying37 HI29.out HA29.out HB29.out HC29.out rfl (by decide) m.pv1 na vs rfl OW.out [.slice (some ⟨wr.heap.size, 0, none⟩) 3 3] 29 (by first | rfl | (rw [World.size_alloc]; rfl)) rfl (by intro u hu; simp at hu; subst hu; rfl) (by omega) (by omega) (by omega) ?_; intro v5 w5 ho hu5 hl5; obtain ⟨a5, k5, e5, -⟩ := own_view ho; subst e5; have HO5 := hid ho; have HU5 := hid hu5; have HL5 := hid hl5; have al5 := HA4.out.set (i := 3) (a' := rowI (.slice a5 (na + 1) k5) (m.A1 ++ [[j % 256, j / 256, 1]])) rfl hu5 ⟨_, by rw [List.length_append, ← HNA.out]; exact ho, (BS.out.upd hu5 (fun s hs => Itm.nob _ (HA4.out.hold 3 _ rfl) s hs)).snoc (HB4.out.upd hu5 (fun s hs => Itm.nob _ (HA4.out.hold 3 _ rfl) s hs))⟩ (fun s hs => (hl5 s (by simpa [rowI] using hs)).imp (fun q => by simpa [rowI] using q) id); have AL5 := hid al5; have c8 := al5.hold 8 _ rfl; have c8b := (blk_cell c8 1).trans rfl; have c8f := blk_frozen c8; clear ho hu5 hl5 al5 c8))
            go_roundg (n - (j + 1))
            case measure => have := Hd.out; omega
            case rel =>
              have u6 : Upd [Q8] w5 (w5.setCell ⟨Q8, 1, none⟩ (.slice a5 (na + 1) k5)) := (Upd.refl _ _).setCell (.inl (by simp)) _
              have A6 := AL5.out.set (i := 8) (a' := blkI Q8 #[m.pv0, .slice a5 (na + 1) k5] 46 (by decide)) rfl u6 (blk_set (AL5.out.hold 8 _ rfl) 1 _) (Fresh.refl _ _)
              exact ⟨j + 1, { m with F1 := F', y := eput m.y [j % 256, j / 256, 1], pv1 := .slice a5 (na + 1) k5, A1 := m.A1 ++ [[j % 256, j / 256, 1]] }, rfl, by go_num, hid (by have := Hd.out; omega), hid A6, hid (HI.out.swap.put HLT.out _ rfl).swap, hid (by obtain ⟨f1, f2, f3, f4⟩ := HF.out; exact ⟨by simp; omega, by simp; omega, by simp; omega, by simp; omega⟩), hid (All.after (All.after HU4.out HA4.out (i := 3) rfl HU5.out hB) AL5.out (i := 8) rfl u6 hB)⟩
        · have HAN : Hid (∀ k, All Q8 (wr.drewN k) (m.lst gx gy Q8 Q9 Q11 Q12)) := hid (fun k => HA.out.new ((Upd.refl [] wr).drewN k))
          have OK : Hid (m.y.Ok) := hid (HI.out.swap.ok (by obtain ⟨f1, f2, f3, f4⟩ := HF.out; omega) (by obtain ⟨f1, f2, f3, f4⟩ := HF.out; omega))
          have hop : m.y.out.length ≤ 16 := out_len _ (Nat.le_trans HI.out.swap.fx.kept HI.out.swap.fx.win)
          have HOP := hid hop
          clear hop
          go_upto_region 21 with (fail)
          have hw1 : IntKind.i64.wrap 1 = 1 := by decide
          have hw0 : IntKind.i64.wrap 0 = 0 := by decide
          refine J.J_begin (fun wz => wz.cell? ⟨Q12, 0, none⟩ = some m.wv0) 10 (by kernel_rfl) ⟨by kernel_rfl, by kernel_rfl, by kernel_rfl⟩ ((blk_cell ((HAN.out 1).hold 11 _ rfl) 0).trans rfl) (fun LAST HS => ?_)
          refine J.J_take (i := 0) (v := ?_) LAST (by rfl) (by decide) (by kernel_rfl) (by kernel_rfl) (by intro _ _ _ h; exact h) HS (Or.inl ⟨by rfl, ?_⟩) ?_
          rotate_left
          · intro w hSw; (try dsimp only at hSw); go_simp; try with_reducible rfl
          try simp only [Act.put, List.setIfInBounds_toArray, List.set_cons_zero, List.set_cons_succ]
          refine J.J_take (i := 1) (v := ?_) LAST (by rfl) (by decide) (by kernel_rfl) (by kernel_rfl) (by intro _ _ _ h; exact h) HS (Or.inl ⟨by rfl, ?_⟩) ?_
          rotate_left
          · intro w hSw; (try dsimp only at hSw); go_simp; try with_reducible rfl
          try simp only [Act.put, List.setIfInBounds_toArray, List.set_cons_zero, List.set_cons_succ]
          refine J.J_take (i := 2) (v := ?_) LAST (by rfl) (by decide) (by kernel_rfl) (by kernel_rfl) (by intro _ _ _ h; exact h) HS (Or.inl ⟨by rfl, ?_⟩) ?_
          rotate_left
          · intro w hSw; (try dsimp only at hSw); go_simp; try with_reducible rfl
          try simp only [Act.put, List.setIfInBounds_toArray, List.set_cons_zero, List.set_cons_succ]
          refine J.J_take (i := 3) (v := ?_) LAST (by rfl) (by decide) (by kernel_rfl) (by kernel_rfl) (by intro _ _ _ h; exact h) HS (Or.inl ⟨by rfl, ?_⟩) ?_
          rotate_left
          · intro w hSw; (try dsimp only at hSw); go_simp; try with_reducible rfl
          try simp only [Act.put, List.setIfInBounds_toArray, List.set_cons_zero, List.set_cons_succ]
          refine J.J_take (i := 4) (v := ?_) LAST (by rfl) (by decide) (by kernel_rfl) (by kernel_rfl) (by intro _ _ _ h; exact h) HS (Or.inl ⟨by rfl, ?_⟩) ?_
          rotate_left
          · intro w hSw; (try dsimp only at hSw); go_simp; try with_reducible rfl
          try simp only [Act.put, List.setIfInBounds_toArray, List.set_cons_zero, List.set_cons_succ]
          refine J.J_take (i := 5) (v := ?_) LAST (by rfl) (by decide) (by kernel_rfl) (by kernel_rfl) (by intro _ _ _ h; exact h) HS (Or.inl ⟨by rfl, ?_⟩) ?_
          rotate_left
          · intro w hSw; (try dsimp only at hSw); go_simp; try with_reducible rfl
          try simp only [Act.put, List.setIfInBounds_toArray, List.set_cons_zero, List.set_cons_succ]
          refine J.J_take (i := 6) (v := ?_) LAST (by rfl) (by decide) (by kernel_rfl) (by kernel_rfl) (by intro _ _ _ h; exact h) HS (Or.inl ⟨by rfl, ?_⟩) ?_
          rotate_left
          · intro w hSw; (try dsimp only at hSw); go_simp; try with_reducible rfl
          try simp only [Act.put, List.setIfInBounds_toArray, List.set_cons_zero, List.set_cons_succ]
          refine J.J_one (i := 7) (by rfl) (by decide) (by kernel_rfl) (fun KK hK => ?_)
          go_simp
          refine (a_out (HAN.out 1) (i := 1) rfl OK.out).mono ?_
          rintro e w4 ⟨v, rfl, ⟨us2, po, pb⟩, ha, hu⟩
          have HA4 := hid ha
          have HU4 := hid (All.after (HU.out.drewN 1) (HAN.out 1) (i := 1) rfl hu hB)
          obtain ⟨us, og, bg⟩ := ha.hold 6 _ rfl
          have usl : us.length = m.W0.length := IsPks.len bg og
          have usl2 : us2.length = m.y.out.length := IsPks.len pb po
          obtain ⟨nw, hnw⟩ : ∃ nw, nw = m.W0.length := ⟨_, rfl⟩
          obtain ⟨np, hnp⟩ : ∃ np, np = m.y.out.length := ⟨_, rfl⟩
          have OG : Hid (w4.ownsRow 0 34 5 m.wv0 nw (pkCells m.W0 us)) := hid (by rw [hnw]; exact og)
          have OR : Hid (w4.ownsRow (wr.drewN 1).heap.size 34 5 v np (pkCells m.y.out us2)) := hid (by rw [hnp]; exact po)
          have BG := hid bg
          have BR := hid pb
          have UL := hid usl
          have UL2 := hid usl2
          have HNW := hid hnw
          have HNP := hid hnp
          have hnw2 : nw ≤ 4800 := by obtain ⟨f1, f2, f3, f4⟩ := HF.out; omega
          have hnp2 : np ≤ 16 := by have := HOP.out; omega
          have HS1 : w4.cell? ⟨Q12, 0, none⟩ = some m.wv0 := (blk_cell (ha.hold 11 _ rfl) 0).trans rfl
          obtain ⟨va, vk, ev, -⟩ := own_view OR.out
          subst ev
          clear ha hu og bg po pb hnw hnp usl usl2
          go_wp2_with fail
          refine hK.out _ _ HS1 ?_
          clear hK KK HS
          try simp only [List.setIfInBounds_toArray]
          refine J.J_one (i := 8) (by rfl) (by decide) (by kernel_rfl) (fun KK hK => ?_)
          refine step_app_row rfl (.tmp 95) (.tmp 97) 30 rfl 34 i34 _ 5 48 Try.underlying30 HI34.out HA34.out HB34.out HC34.out rfl (by decide) m.wv0 nw _ (by rfl) OG.out (.slice va np vk) np _ _ (by rfl) OR.out (pkCells_one _ _ (Bodies.ones BR.out)) (by unfold maxLen; omega) (by omega) ?_
          intro v5 w5 ho hu5 hl5
          obtain ⟨a5, k5, e5, -⟩ := own_view ho
          subst e5
          have HU5 := hid hu5
          have al5 := HA4.out.set (i := 6) (a' := pksI (.slice a5 (nw + np) k5) (m.W0 ++ m.y.out)) rfl hu5 ⟨us ++ us2, by rw [pkCells_append _ _ _ _ UL.out, List.length_append, ← HNW.out, ← HNP.out]; exact ho, by rw [List.map_append]; exact (BG.out.upd hu5 (fun s hs => Itm.nob _ (HA4.out.hold 6 _ rfl) s hs)).append (BR.out.upd hu5 (fun s hs => Itm.nob _ (HA4.out.hold 6 _ rfl) s hs))⟩ (fun s hs => (hl5 s (by simpa [pksI] using hs)).imp (fun q => by simpa [pksI] using q) id)
          have AL5 := hid al5
          have c9 := al5.hold 11 _ rfl
          have HS5 : w5.cell? ⟨Q12, 0, none⟩ = some m.wv0 := (blk_cell c9 0).trans rfl
          have c9f := blk_frozen c9
          clear ho hu5 hl5 al5 c9
          refine hK.out _ _ HS5 ?_
          clear hK KK HS1
          try simp only [Act.put, List.setIfInBounds_toArray, List.set_cons_zero, List.set_cons_succ]
          refine J.J_take (i := 9) (v := ?_) LAST (by rfl) (by decide) (by kernel_rfl) (by kernel_rfl) (by intro _ _ _ h; exact h) HS5 (Or.inl ⟨by rfl, ?_⟩) ?_
          rotate_left
          · intro w hSw; (try dsimp only at hSw); go_simp; try with_reducible rfl
          try simp only [Act.put, List.setIfInBounds_toArray, List.set_cons_zero, List.set_cons_succ]
          refine J.J_last (by rfl) (by kernel_rfl) (by kernel_rfl) ?_
          go_simp
          go_wp2_with fail
          go_roundg (n - (j + 1))
          case measure => have := Hd.out; omega
          case rel =>
            have u6 : Upd [Q12] w5 (w5.setCell ⟨Q12, 0, none⟩ (.slice a5 (nw + np) k5)) := (Upd.refl _ _).setCell (.inl (by simp)) _
            have A6 := AL5.out.set (i := 11) (a' := blkI Q12 #[.slice a5 (nw + np) k5, m.wv1] 81 (by decide)) rfl u6 (blk_set (AL5.out.hold 11 _ rfl) 0 _) (Fresh.refl _ _)
            exact ⟨j + 1, { m with y := m.y.outE, wv0 := .slice a5 (nw + np) k5, W0 := m.W0 ++ m.y.out }, rfl, by go_num, hid (by have := Hd.out; omega), hid A6, hid HI.out.swap.said.swap, hid (by have h1 := HOP.out; obtain ⟨f1, f2, f3, f4⟩ := HF.out; exact ⟨by show m.A0.length ≤ _; omega, by show m.A1.length ≤ _; omega, by simp; omega, by simp; omega⟩), hid (All.after (All.after HU4.out HA4.out (i := 6) rfl HU5.out hB) AL5.out (i := 11) rfl u6 hB)⟩
        · have HAN : Hid (∀ k, All Q8 (wr.drewN k) (m.lst gx gy Q8 Q9 Q11 Q12)) := hid (fun k => HA.out.new ((Upd.refl [] wr).drewN k))
          have OK : Hid (m.y.Ok) := hid (HI.out.swap.ok (by obtain ⟨f1, f2, f3, f4⟩ := HF.out; omega) (by obtain ⟨f1, f2, f3, f4⟩ := HF.out; omega))
          have hop : m.y.out.length ≤ 16 := out_len _ (Nat.le_trans HI.out.swap.fx.kept HI.out.swap.fx.win)
          have HOP := hid hop
          clear hop
          go_upto_region 21 with (fail)
          have hw1 : IntKind.i64.wrap 1 = 1 := by decide
          have hw0 : IntKind.i64.wrap 0 = 0 := by decide
          refine J.J_begin (fun wz => wz.cell? ⟨Q12, 0, none⟩ = some m.wv0) 10 (by kernel_rfl) ⟨by kernel_rfl, by kernel_rfl, by kernel_rfl⟩ ((blk_cell ((HAN.out 1).hold 11 _ rfl) 0).trans rfl) (fun LAST HS => ?_)
          refine J.J_take (i := 0) (v := ?_) LAST (by rfl) (by decide) (by kernel_rfl) (by kernel_rfl) (by intro _ _ _ h; exact h) HS (Or.inl ⟨by rfl, ?_⟩) ?_
          rotate_left
          · intro w hSw; (try dsimp only at hSw); go_simp; try with_reducible rfl
          try simp only [Act.put, List.setIfInBounds_toArray, List.set_cons_zero, List.set_cons_succ]
          refine J.J_take (i := 1) (v := ?_) LAST (by rfl) (by decide) (by kernel_rfl) (by kernel_rfl) (by intro _ _ _ h; exact h) HS (Or.inl ⟨by rfl, ?_⟩) ?_
          rotate_left
          · intro w hSw; (try dsimp only at hSw); go_simp; try with_reducible rfl
          try simp only [Act.put, List.setIfInBounds_toArray, List.set_cons_zero, List.set_cons_succ]
          refine J.J_take (i := 2) (v := ?_) LAST (by rfl) (by decide) (by kernel_rfl) (by kernel_rfl) (by intro _ _ _ h; exact h) HS (Or.inl ⟨by rfl, ?_⟩) ?_
          rotate_left
          · intro w hSw; (try dsimp only at hSw); go_simp; try with_reducible rfl
          try simp only [Act.put, List.setIfInBounds_toArray, List.set_cons_zero, List.set_cons_succ]
          refine J.J_take (i := 3) (v := ?_) LAST (by rfl) (by decide) (by kernel_rfl) (by kernel_rfl) (by intro _ _ _ h; exact h) HS (Or.inl ⟨by rfl, ?_⟩) ?_
          rotate_left
          · intro w hSw; (try dsimp only at hSw); go_simp; try with_reducible rfl
          try simp only [Act.put, List.setIfInBounds_toArray, List.set_cons_zero, List.set_cons_succ]
          refine J.J_take (i := 4) (v := ?_) LAST (by rfl) (by decide) (by kernel_rfl) (by kernel_rfl) (by intro _ _ _ h; exact h) HS (Or.inl ⟨by rfl, ?_⟩) ?_
          rotate_left
          · intro w hSw; (try dsimp only at hSw); go_simp; try with_reducible rfl
          try simp only [Act.put, List.setIfInBounds_toArray, List.set_cons_zero, List.set_cons_succ]
          refine J.J_take (i := 5) (v := ?_) LAST (by rfl) (by decide) (by kernel_rfl) (by kernel_rfl) (by intro _ _ _ h; exact h) HS (Or.inl ⟨by rfl, ?_⟩) ?_
          rotate_left
          · intro w hSw; (try dsimp only at hSw); go_simp; try with_reducible rfl
          try simp only [Act.put, List.setIfInBounds_toArray, List.set_cons_zero, List.set_cons_succ]
          refine J.J_take (i := 6) (v := ?_) LAST (by rfl) (by decide) (by kernel_rfl) (by kernel_rfl) (by intro _ _ _ h; exact h) HS (Or.inl ⟨by rfl, ?_⟩) ?_
          rotate_left
          · intro w hSw; (try dsimp only at hSw); go_simp; try with_reducible rfl
          try simp only [Act.put, List.setIfInBounds_toArray, List.set_cons_zero, List.set_cons_succ]
          refine J.J_one (i := 7) (by rfl) (by decide) (by kernel_rfl) (fun KK hK => ?_)
          go_simp
          refine (a_out (HAN.out 1) (i := 1) rfl OK.out).mono ?_
          rintro e w4 ⟨v, rfl, ⟨us2, po, pb⟩, ha, hu⟩
          have HA4 := hid ha
          have HU4 := hid (All.after (HU.out.drewN 1) (HAN.out 1) (i := 1) rfl hu hB)
          obtain ⟨us, og, bg⟩ := ha.hold 6 _ rfl
          have usl : us.length = m.W0.length := IsPks.len bg og
          have usl2 : us2.length = m.y.out.length := IsPks.len pb po
          obtain ⟨nw, hnw⟩ : ∃ nw, nw = m.W0.length := ⟨_, rfl⟩
          obtain ⟨np, hnp⟩ : ∃ np, np = m.y.out.length := ⟨_, rfl⟩
          have OG : Hid (w4.ownsRow 0 34 5 m.wv0 nw (pkCells m.W0 us)) := hid (by rw [hnw]; exact og)
          have OR : Hid (w4.ownsRow (wr.drewN 1).heap.size 34 5 v np (pkCells m.y.out us2)) := hid (by rw [hnp]; exact po)
          have BG := hid bg
          have BR := hid pb
          have UL := hid usl
          have UL2 := hid usl2
          have HNW := hid hnw
          have HNP := hid hnp
          have hnw2 : nw ≤ 4800 := by obtain ⟨f1, f2, f3, f4⟩ := HF.out; omega
          have hnp2 : np ≤ 16 := by have := HOP.out; omega
          have HS1 : w4.cell? ⟨Q12, 0, none⟩ = some m.wv0 := (blk_cell (ha.hold 11 _ rfl) 0).trans rfl
          obtain ⟨va, vk, ev, -⟩ := own_view OR.out
          subst ev
          clear ha hu og bg po pb hnw hnp usl usl2
          go_wp2_with fail
          refine hK.out _ _ HS1 ?_
          clear hK KK HS
          try simp only [List.setIfInBounds_toArray]
          refine J.J_one (i := 8) (by rfl) (by decide) (by kernel_rfl) (fun KK hK => ?_)
          refine step_app_row rfl (.tmp 95) (.tmp 97) 30 rfl 34 i34 _ 5 48 Try.underlying30 HI34.out HA34.out HB34.out HC34.out rfl (by decide) m.wv0 nw _ (by rfl) OG.out (.slice va np vk) np _ _ (by rfl) OR.out (pkCells_one _ _ (Bodies.ones BR.out)) (by unfold maxLen; omega) (by omega) ?_
          intro v5 w5 ho hu5 hl5
          obtain ⟨a5, k5, e5, -⟩ := own_view ho
          subst e5
          have HU5 := hid hu5
          have al5 := HA4.out.set (i := 6) (a' := pksI (.slice a5 (nw + np) k5) (m.W0 ++ m.y.out)) rfl hu5 ⟨us ++ us2, by rw [pkCells_append _ _ _ _ UL.out, List.length_append, ← HNW.out, ← HNP.out]; exact ho, by rw [List.map_append]; exact (BG.out.upd hu5 (fun s hs => Itm.nob _ (HA4.out.hold 6 _ rfl) s hs)).append (BR.out.upd hu5 (fun s hs => Itm.nob _ (HA4.out.hold 6 _ rfl) s hs))⟩ (fun s hs => (hl5 s (by simpa [pksI] using hs)).imp (fun q => by simpa [pksI] using q) id)
          have AL5 := hid al5
          have c9 := al5.hold 11 _ rfl
          have HS5 : w5.cell? ⟨Q12, 0, none⟩ = some m.wv0 := (blk_cell c9 0).trans rfl
          have c9f := blk_frozen c9
          clear ho hu5 hl5 al5 c9
          refine hK.out _ _ HS5 ?_
          clear hK KK HS1
          try simp only [Act.put, List.setIfInBounds_toArray, List.set_cons_zero, List.set_cons_succ]
          refine J.J_take (i := 9) (v := ?_) LAST (by rfl) (by decide) (by kernel_rfl) (by kernel_rfl) (by intro _ _ _ h; exact h) HS5 (Or.inl ⟨by rfl, ?_⟩) ?_
          rotate_left
          · intro w hSw; (try dsimp only at hSw); go_simp; try with_reducible rfl
          try simp only [Act.put, List.setIfInBounds_toArray, List.set_cons_zero, List.set_cons_succ]
          refine J.J_last (by rfl) (by kernel_rfl) (by kernel_rfl) ?_
          go_simp
          go_wp2_with fail
          go_roundg (n - (j + 1))
          case measure => have := Hd.out; omega
          case rel =>
            have u6 : Upd [Q12] w5 (w5.setCell ⟨Q12, 0, none⟩ (.slice a5 (nw + np) k5)) := (Upd.refl _ _).setCell (.inl (by simp)) _
            have A6 := AL5.out.set (i := 11) (a' := blkI Q12 #[.slice a5 (nw + np) k5, m.wv1] 81 (by decide)) rfl u6 (blk_set (AL5.out.hold 11 _ rfl) 0 _) (Fresh.refl _ _)
            exact ⟨j + 1, { m with y := m.y.outE, wv0 := .slice a5 (nw + np) k5, W0 := m.W0 ++ m.y.out }, rfl, by go_num, hid (by have := Hd.out; omega), hid A6, hid HI.out.swap.said.swap, hid (by have h1 := HOP.out; obtain ⟨f1, f2, f3, f4⟩ := HF.out; exact ⟨by show m.A0.length ≤ _; omega, by show m.A1.length ≤ _; omega, by simp; omega, by simp; omega⟩), hid (All.after (All.after HU4.out HA4.out (i := 6) rfl HU5.out hB) AL5.out (i := 11) rfl u6 hB)⟩
        · have hpk : IsPks wr 0 m.wv1 m.W1 := HA.out.hold 7 _ rfl
          obtain ⟨wa, wk, ew, wl1, wl2⟩ := hpk.shape
          have c12 := HA.out.hold 11 _ rfl
          obtain ⟨nw, hnw⟩ : ∃ nw, nw = m.W1.length := ⟨_, rfl⟩
          have c12a : wr.cell? ⟨Q12, 1, none⟩ = some (.slice wa nw wk) := by rw [hnw, ← ew]; exact (blk_cell c12 1).trans rfl
          have hnw2 : nw ≤ 4800 := by obtain ⟨f1, f2, f3, f4⟩ := HF.out; omega
          have HPK := hid hpk
          have HEW := hid ew
          have HNW := hid hnw
          rw [← hnw] at wl1
          clear hpk c12 ew hnw
          by_cases h0 : nw = 0
          · subst h0
            go_wp2_with fail
            go_roundg (n - (j + 1))
            case measure => have := Hd.out; omega
            case rel => exact ⟨j + 1, m, rfl, by go_num, hid (by have := Hd.out; omega), HA, hid HI.out, hid (by obtain ⟨f1, f2, f3, f4⟩ := HF.out; exact ⟨by show m.A0.length ≤ _; omega, by show m.A1.length ≤ _; omega, by show m.W0.length ≤ _; omega, by show m.W1.length ≤ _; omega⟩), HU⟩
          · have h0' : ((nw : Int) == 0) = false := by rw [beq_eq_false_iff_ne]; omega
            go_wp2_with fail
            refine (rest_some _ _ _ (by omega) (by omega)).mono ?_
            rintro e w' ⟨q, hq, -, rfl, rfl⟩
            have hq2 : q < m.W1.length := by have := HNW.out; omega
            obtain ⟨g2, k2, u, e1, _, _, c0, c1, c2, c3, c4, hb⟩ := HPK.out.get (i := q) hq2
            have e2 := HEW.out.symm.trans e1
            simp only [Value.slice.injEq] at e2
            obtain ⟨rfl, -, rfl⟩ := e2
            obtain ⟨p, hp⟩ : ∃ p, p = m.W1.getD q noPk := ⟨_, rfl⟩
            rw [← hp] at c0 c1 c2 c3 hb
            have hpm : p ∈ m.W1 := by rw [hp, List.getD_eq_getElem?_getD, List.getElem?_eq_getElem hq2]; exact List.getElem_mem _
            obtain ⟨-, p2, p3, p4, p5⟩ := HI.out.swap.yx.pk p hpm
            have hw1 := HI.out.swap.xy.wa
            have hw2 := HI.out.swap.yx.wa
            have HPM := hid hpm
            have HB := hid hb
            obtain ⟨ua, uk, eu, -⟩ := id hb
            obtain ⟨bl, hbl⟩ : ∃ bl, bl = p.body.length := ⟨_, rfl⟩
            rw [← hbl] at eu
            subst eu
            have OK : Hid (m.y.Ok) := hid (HI.out.swap.ok (by obtain ⟨f1, f2, f3, f4⟩ := HF.out; omega) (by obtain ⟨f1, f2, f3, f4⟩ := HF.out; omega))
            have BND : Hid (p.window ≤ 16 ∧ p.body.length ≤ 1048576 ∧ p.ack ≤ 1000000 ∧ p.seq ≤ 1000000 ∧ m.y.told ≤ 100) := hid (by
              obtain ⟨f1, f2, f3, f4⟩ := HF.out
              have t1 := HI.out.swap.xy.told
              have t2 := HI.out.swap.fx.kept
              have t3 := HI.out.swap.fx.win
              have t4 := HI.out.swap.xy.wa
              have t5 := HI.out.swap.yx.wa
              exact ⟨p3, by omega, by omega, by omega, by omega⟩)
            have HQ2 := hid hq2
            clear hp hpm hb hbl e1 p2 p3 p4 p5 hq2 hw1 hw2
            go_wp2_with fail
            refine (a_come HA.out (i := 1) rfl OK.out p _ HB.out BND.out.1 BND.out.2.1 BND.out.2.2.1 BND.out.2.2.2.1 BND.out.2.2.2.2).mono ?_
            rintro e w4 ⟨F', rfl, ha, hu⟩
            have HA4 := hid ha
            have HU4 := hid (All.after HU.out HA.out (i := 1) rfl hu hB)
            have c12 := ha.hold 11 _ rfl
            have c12b : w4.cell? ⟨Q12, 1, none⟩ = some (.slice (some ⟨g2, 0, none⟩) nw wk) := by rw [HNW.out, ← HEW.out]; exact (blk_cell c12 1).trans rfl
            have c12f := blk_frozen c12
            clear ha hu c0 c1 c2 c3 c4 c12 c12a
            go_wp2_with fail
            refine (rest_some _ _ _ (by omega) (by omega)).mono ?_
            rintro e w' ⟨rt, hrt, -, rfl, rfl⟩
            by_cases hr0 : rt = 0
            · subst hr0
              go_wp2_with fail
              go_roundg (n - (j + 1))
              case measure => have := Hd.out; omega
              case rel => exact ⟨j + 1, { m with F1 := F', y := m.y.come p }, rfl, by go_num, hid (by have := Hd.out; omega), HA4, hid (HI.out.swap.come HPM.out).swap, hid (by obtain ⟨f1, f2, f3, f4⟩ := HF.out; exact ⟨by show m.A0.length ≤ _; omega, by show m.A1.length ≤ _; omega, by show m.W0.length ≤ _; omega, by show m.W1.length ≤ _; omega⟩), HU4⟩
            · have hr1 : (0 : Int) < (rt : Int) := by omega
              clear hr0
              have hpk4 : IsPks w4 0 m.wv1 m.W1 := HA4.out.hold 7 _ rfl
              have DL := hid (delete_pk hpk4 HQ2.out (by have := HNW.out; omega))
              clear hpk4
              go_wp2_with fail
              have DL2 := DL.out
              rw [HEW.out, ← HNW.out] at DL2
              refine DL2.mono ?_
              rintro e w5 ⟨v', rfl, d1, d2, d3⟩
              obtain ⟨a5, k5, e5, -⟩ := d1.shape
              obtain ⟨nd, hnd⟩ : ∃ nd, nd = (m.W1.eraseIdx q).length := ⟨_, rfl⟩
              rw [← hnd] at e5
              subst e5
              have d4 : Upd (pksI m.wv1 m.W1).ft w4 w5 := by show Upd m.wv1.ownBlock.toList w4 w5; rw [HEW.out, ← HNW.out]; exact d3
              have al5 := HA4.out.set (i := 7) (a' := pksI (.slice a5 nd k5) (m.W1.eraseIdx q)) rfl d4 d1 (fun s hs => .inl (by
                have h1 := d2 s (by simpa [pksI] using hs)
                show s ∈ m.wv1.ownBlock.toList
                rw [HEW.out, ← HNW.out]
                simpa using h1))
              have D4 := hid d4
              have AL5 := hid al5
              have c9 := al5.hold 11 _ rfl
              have HS5 := (blk_cell c9 1).trans rfl
              have c9f := blk_frozen c9
              have HND := hid hnd
              clear d1 d2 d3 d4 al5 c9 hnd DL2 c12b c12f
              go_wp2_with fail
              go_roundg (n - (j + 1))
              case measure => have := Hd.out; omega
              case rel =>
                have u6 : Upd [Q12] w5 (w5.setCell ⟨Q12, 1, none⟩ (.slice a5 nd k5)) := (Upd.refl _ _).setCell (.inl (by simp)) _
                have A6 := AL5.out.set (i := 11) (a' := blkI Q12 #[m.wv0, .slice a5 nd k5] 81 (by decide)) rfl u6 (blk_set (AL5.out.hold 11 _ rfl) 1 _) (Fresh.refl _ _)
                have hle : (m.W1.eraseIdx q).length ≤ m.W1.length := by rw [List.length_eraseIdx]; split <;> omega
                exact ⟨j + 1, { m with F1 := F', y := m.y.come p, wv1 := .slice a5 nd k5, W1 := m.W1.eraseIdx q }, rfl, by go_num, hid (by have := Hd.out; omega), hid A6, hid ((HI.out.swap.come HPM.out).lose q).swap, hid (by obtain ⟨f1, f2, f3, f4⟩ := HF.out; exact ⟨by show m.A0.length ≤ _; omega, by show m.A1.length ≤ _; omega, by simp only; omega, by simp only; omega⟩), hid (All.after (All.after HU4.out HA4.out (i := 7) rfl D4.out hB) AL5.out (i := 11) rfl u6 hB)⟩
        · have hpk : IsPks wr 0 m.wv1 m.W1 := HA.out.hold 7 _ rfl
          obtain ⟨wa, wk, ew, wl1, wl2⟩ := hpk.shape
          have c12 := HA.out.hold 11 _ rfl
          obtain ⟨nw, hnw⟩ : ∃ nw, nw = m.W1.length := ⟨_, rfl⟩
          have c12a : wr.cell? ⟨Q12, 1, none⟩ = some (.slice wa nw wk) := by rw [hnw, ← ew]; exact (blk_cell c12 1).trans rfl
          have hnw2 : nw ≤ 4800 := by obtain ⟨f1, f2, f3, f4⟩ := HF.out; omega
          have HPK := hid hpk
          have HEW := hid ew
          have HNW := hid hnw
          rw [← hnw] at wl1
          clear hpk c12 ew hnw
          by_cases h0 : nw = 0
          · subst h0
            go_wp2_with fail
            go_roundg (n - (j + 1))
            case measure => have := Hd.out; omega
            case rel => exact ⟨j + 1, m, rfl, by go_num, hid (by have := Hd.out; omega), HA, hid HI.out, hid (by obtain ⟨f1, f2, f3, f4⟩ := HF.out; exact ⟨by show m.A0.length ≤ _; omega, by show m.A1.length ≤ _; omega, by show m.W0.length ≤ _; omega, by show m.W1.length ≤ _; omega⟩), HU⟩
          · have h0' : ((nw : Int) == 0) = false := by rw [beq_eq_false_iff_ne]; omega
            go_wp2_with fail
            refine (rest_some _ _ _ (by omega) (by omega)).mono ?_
            rintro e w' ⟨q, hq, -, rfl, rfl⟩
            have hq2 : q < m.W1.length := by have := HNW.out; omega
            obtain ⟨g2, k2, u, e1, _, _, c0, c1, c2, c3, c4, hb⟩ := HPK.out.get (i := q) hq2
            have e2 := HEW.out.symm.trans e1
            simp only [Value.slice.injEq] at e2
            obtain ⟨rfl, -, rfl⟩ := e2
            obtain ⟨p, hp⟩ : ∃ p, p = m.W1.getD q noPk := ⟨_, rfl⟩
            rw [← hp] at c0 c1 c2 c3 hb
            have hpm : p ∈ m.W1 := by rw [hp, List.getD_eq_getElem?_getD, List.getElem?_eq_getElem hq2]; exact List.getElem_mem _
            obtain ⟨-, p2, p3, p4, p5⟩ := HI.out.swap.yx.pk p hpm
            have hw1 := HI.out.swap.xy.wa
            have hw2 := HI.out.swap.yx.wa
            have HPM := hid hpm
            have HB := hid hb
            obtain ⟨ua, uk, eu, -⟩ := id hb
            obtain ⟨bl, hbl⟩ : ∃ bl, bl = p.body.length := ⟨_, rfl⟩
            rw [← hbl] at eu
            subst eu
            have OK : Hid (m.y.Ok) := hid (HI.out.swap.ok (by obtain ⟨f1, f2, f3, f4⟩ := HF.out; omega) (by obtain ⟨f1, f2, f3, f4⟩ := HF.out; omega))
            have BND : Hid (p.window ≤ 16 ∧ p.body.length ≤ 1048576 ∧ p.ack ≤ 1000000 ∧ p.seq ≤ 1000000 ∧ m.y.told ≤ 100) := hid (by
              obtain ⟨f1, f2, f3, f4⟩ := HF.out
              have t1 := HI.out.swap.xy.told
              have t2 := HI.out.swap.fx.kept
              have t3 := HI.out.swap.fx.win
              have t4 := HI.out.swap.xy.wa
              have t5 := HI.out.swap.yx.wa
              exact ⟨p3, by omega, by omega, by omega, by omega⟩)
            have HQ2 := hid hq2
            clear hp hpm hb hbl e1 p2 p3 p4 p5 hq2 hw1 hw2
            go_wp2_with fail
            refine (a_come HA.out (i := 1) rfl OK.out p _ HB.out BND.out.1 BND.out.2.1 BND.out.2.2.1 BND.out.2.2.2.1 BND.out.2.2.2.2).mono ?_
            rintro e w4 ⟨F', rfl, ha, hu⟩
            have HA4 := hid ha
            have HU4 := hid (All.after HU.out HA.out (i := 1) rfl hu hB)
            have c12 := ha.hold 11 _ rfl
            have c12b : w4.cell? ⟨Q12, 1, none⟩ = some (.slice (some ⟨g2, 0, none⟩) nw wk) := by rw [HNW.out, ← HEW.out]; exact (blk_cell c12 1).trans rfl
            have c12f := blk_frozen c12
            clear ha hu c0 c1 c2 c3 c4 c12 c12a
            go_wp2_with fail
            refine (rest_some _ _ _ (by omega) (by omega)).mono ?_
            rintro e w' ⟨rt, hrt, -, rfl, rfl⟩
            by_cases hr0 : rt = 0
            · subst hr0
              go_wp2_with fail
              go_roundg (n - (j + 1))
              case measure => have := Hd.out; omega
              case rel => exact ⟨j + 1, { m with F1 := F', y := m.y.come p }, rfl, by go_num, hid (by have := Hd.out; omega), HA4, hid (HI.out.swap.come HPM.out).swap, hid (by obtain ⟨f1, f2, f3, f4⟩ := HF.out; exact ⟨by show m.A0.length ≤ _; omega, by show m.A1.length ≤ _; omega, by show m.W0.length ≤ _; omega, by show m.W1.length ≤ _; omega⟩), HU4⟩
            · have hr1 : (0 : Int) < (rt : Int) := by omega
              clear hr0
              have hpk4 : IsPks w4 0 m.wv1 m.W1 := HA4.out.hold 7 _ rfl
              have DL := hid (delete_pk hpk4 HQ2.out (by have := HNW.out; omega))
              clear hpk4
              go_wp2_with fail
              have DL2 := DL.out
              rw [HEW.out, ← HNW.out] at DL2
              refine DL2.mono ?_
              rintro e w5 ⟨v', rfl, d1, d2, d3⟩
              obtain ⟨a5, k5, e5, -⟩ := d1.shape
              obtain ⟨nd, hnd⟩ : ∃ nd, nd = (m.W1.eraseIdx q).length := ⟨_, rfl⟩
              rw [← hnd] at e5
              subst e5
              have d4 : Upd (pksI m.wv1 m.W1).ft w4 w5 := by show Upd m.wv1.ownBlock.toList w4 w5; rw [HEW.out, ← HNW.out]; exact d3
              have al5 := HA4.out.set (i := 7) (a' := pksI (.slice a5 nd k5) (m.W1.eraseIdx q)) rfl d4 d1 (fun s hs => .inl (by
                have h1 := d2 s (by simpa [pksI] using hs)
                show s ∈ m.wv1.ownBlock.toList
                rw [HEW.out, ← HNW.out]
                simpa using h1))
              have D4 := hid d4
              have AL5 := hid al5
              have c9 := al5.hold 11 _ rfl
              have HS5 := (blk_cell c9 1).trans rfl
              have c9f := blk_frozen c9
              have HND := hid hnd
              clear d1 d2 d3 d4 al5 c9 hnd DL2 c12b c12f
              go_wp2_with fail
              go_roundg (n - (j + 1))
              case measure => have := Hd.out; omega
              case rel =>
                have u6 : Upd [Q12] w5 (w5.setCell ⟨Q12, 1, none⟩ (.slice a5 nd k5)) := (Upd.refl _ _).setCell (.inl (by simp)) _
                have A6 := AL5.out.set (i := 11) (a' := blkI Q12 #[m.wv0, .slice a5 nd k5] 81 (by decide)) rfl u6 (blk_set (AL5.out.hold 11 _ rfl) 1 _) (Fresh.refl _ _)
                have hle : (m.W1.eraseIdx q).length ≤ m.W1.length := by rw [List.length_eraseIdx]; split <;> omega
                exact ⟨j + 1, { m with F1 := F', y := m.y.come p, wv1 := .slice a5 nd k5, W1 := m.W1.eraseIdx q }, rfl, by go_num, hid (by have := Hd.out; omega), hid A6, hid ((HI.out.swap.come HPM.out).lose q).swap, hid (by obtain ⟨f1, f2, f3, f4⟩ := HF.out; exact ⟨by show m.A0.length ≤ _; omega, by show m.A1.length ≤ _; omega, by simp only; omega, by simp only; omega⟩), hid (All.after (All.after HU4.out HA4.out (i := 7) rfl D4.out hB) AL5.out (i := 11) rfl u6 hB)⟩
        · have hpk : IsPks wr 0 m.wv1 m.W1 := HA.out.hold 7 _ rfl
          obtain ⟨wa, wk, ew, wl1, wl2⟩ := hpk.shape
          have c12 := HA.out.hold 11 _ rfl
          obtain ⟨nw, hnw⟩ : ∃ nw, nw = m.W1.length := ⟨_, rfl⟩
          have c12a : wr.cell? ⟨Q12, 1, none⟩ = some (.slice wa nw wk) := by rw [hnw, ← ew]; exact (blk_cell c12 1).trans rfl
          have hnw2 : nw ≤ 4800 := by obtain ⟨f1, f2, f3, f4⟩ := HF.out; omega
          have HPK := hid hpk
          have HEW := hid ew
          have HNW := hid hnw
          rw [← hnw] at wl1
          clear hpk c12 ew hnw
          by_cases h0 : nw = 0
          · subst h0
            go_wp2_with fail
            go_roundg (n - (j + 1))
            case measure => have := Hd.out; omega
            case rel => exact ⟨j + 1, m, rfl, by go_num, hid (by have := Hd.out; omega), HA, hid HI.out, hid (by obtain ⟨f1, f2, f3, f4⟩ := HF.out; exact ⟨by show m.A0.length ≤ _; omega, by show m.A1.length ≤ _; omega, by show m.W0.length ≤ _; omega, by show m.W1.length ≤ _; omega⟩), HU⟩
          · have h0' : ((nw : Int) == 0) = false := by rw [beq_eq_false_iff_ne]; omega
            go_wp2_with fail
            refine (rest_some _ _ _ (by omega) (by omega)).mono ?_
            rintro e w' ⟨q, hq, -, rfl, rfl⟩
            have hq2 : q < m.W1.length := by have := HNW.out; omega
            obtain ⟨g2, k2, u, e1, _, _, c0, c1, c2, c3, c4, hb⟩ := HPK.out.get (i := q) hq2
            have e2 := HEW.out.symm.trans e1
            simp only [Value.slice.injEq] at e2
            obtain ⟨rfl, -, rfl⟩ := e2
            obtain ⟨p, hp⟩ : ∃ p, p = m.W1.getD q noPk := ⟨_, rfl⟩
            rw [← hp] at c0 c1 c2 c3 hb
            have hpm : p ∈ m.W1 := by rw [hp, List.getD_eq_getElem?_getD, List.getElem?_eq_getElem hq2]; exact List.getElem_mem _
            obtain ⟨-, p2, p3, p4, p5⟩ := HI.out.swap.yx.pk p hpm
            have hw1 := HI.out.swap.xy.wa
            have hw2 := HI.out.swap.yx.wa
            have HPM := hid hpm
            have HB := hid hb
            obtain ⟨ua, uk, eu, -⟩ := id hb
            obtain ⟨bl, hbl⟩ : ∃ bl, bl = p.body.length := ⟨_, rfl⟩
            rw [← hbl] at eu
            subst eu
            have OK : Hid (m.y.Ok) := hid (HI.out.swap.ok (by obtain ⟨f1, f2, f3, f4⟩ := HF.out; omega) (by obtain ⟨f1, f2, f3, f4⟩ := HF.out; omega))
            have BND : Hid (p.window ≤ 16 ∧ p.body.length ≤ 1048576 ∧ p.ack ≤ 1000000 ∧ p.seq ≤ 1000000 ∧ m.y.told ≤ 100) := hid (by
              obtain ⟨f1, f2, f3, f4⟩ := HF.out
              have t1 := HI.out.swap.xy.told
              have t2 := HI.out.swap.fx.kept
              have t3 := HI.out.swap.fx.win
              have t4 := HI.out.swap.xy.wa
              have t5 := HI.out.swap.yx.wa
              exact ⟨p3, by omega, by omega, by omega, by omega⟩)
            have HQ2 := hid hq2
            clear hp hpm hb hbl e1 p2 p3 p4 p5 hq2 hw1 hw2
            go_wp2_with fail
            refine (a_come HA.out (i := 1) rfl OK.out p _ HB.out BND.out.1 BND.out.2.1 BND.out.2.2.1 BND.out.2.2.2.1 BND.out.2.2.2.2).mono ?_
            rintro e w4 ⟨F', rfl, ha, hu⟩
            have HA4 := hid ha
            have HU4 := hid (All.after HU.out HA.out (i := 1) rfl hu hB)
            have c12 := ha.hold 11 _ rfl
            have c12b : w4.cell? ⟨Q12, 1, none⟩ = some (.slice (some ⟨g2, 0, none⟩) nw wk) := by rw [HNW.out, ← HEW.out]; exact (blk_cell c12 1).trans rfl
            have c12f := blk_frozen c12
            clear ha hu c0 c1 c2 c3 c4 c12 c12a
            go_wp2_with fail
            refine (rest_some _ _ _ (by omega) (by omega)).mono ?_
            rintro e w' ⟨rt, hrt, -, rfl, rfl⟩
            by_cases hr0 : rt = 0
            · subst hr0
              go_wp2_with fail
              go_roundg (n - (j + 1))
              case measure => have := Hd.out; omega
              case rel => exact ⟨j + 1, { m with F1 := F', y := m.y.come p }, rfl, by go_num, hid (by have := Hd.out; omega), HA4, hid (HI.out.swap.come HPM.out).swap, hid (by obtain ⟨f1, f2, f3, f4⟩ := HF.out; exact ⟨by show m.A0.length ≤ _; omega, by show m.A1.length ≤ _; omega, by show m.W0.length ≤ _; omega, by show m.W1.length ≤ _; omega⟩), HU4⟩
            · have hr1 : (0 : Int) < (rt : Int) := by omega
              clear hr0
              have hpk4 : IsPks w4 0 m.wv1 m.W1 := HA4.out.hold 7 _ rfl
              have DL := hid (delete_pk hpk4 HQ2.out (by have := HNW.out; omega))
              clear hpk4
              go_wp2_with fail
              have DL2 := DL.out
              rw [HEW.out, ← HNW.out] at DL2
              refine DL2.mono ?_
              rintro e w5 ⟨v', rfl, d1, d2, d3⟩
              obtain ⟨a5, k5, e5, -⟩ := d1.shape
              obtain ⟨nd, hnd⟩ : ∃ nd, nd = (m.W1.eraseIdx q).length := ⟨_, rfl⟩
              rw [← hnd] at e5
              subst e5
              have d4 : Upd (pksI m.wv1 m.W1).ft w4 w5 := by show Upd m.wv1.ownBlock.toList w4 w5; rw [HEW.out, ← HNW.out]; exact d3
              have al5 := HA4.out.set (i := 7) (a' := pksI (.slice a5 nd k5) (m.W1.eraseIdx q)) rfl d4 d1 (fun s hs => .inl (by
                have h1 := d2 s (by simpa [pksI] using hs)
                show s ∈ m.wv1.ownBlock.toList
                rw [HEW.out, ← HNW.out]
                simpa using h1))
              have D4 := hid d4
              have AL5 := hid al5
              have c9 := al5.hold 11 _ rfl
              have HS5 := (blk_cell c9 1).trans rfl
              have c9f := blk_frozen c9
              have HND := hid hnd
              clear d1 d2 d3 d4 al5 c9 hnd DL2 c12b c12f
              go_wp2_with fail
              go_roundg (n - (j + 1))
              case measure => have := Hd.out; omega
              case rel =>
                have u6 : Upd [Q12] w5 (w5.setCell ⟨Q12, 1, none⟩ (.slice a5 nd k5)) := (Upd.refl _ _).setCell (.inl (by simp)) _
                have A6 := AL5.out.set (i := 11) (a' := blkI Q12 #[m.wv0, .slice a5 nd k5] 81 (by decide)) rfl u6 (blk_set (AL5.out.hold 11 _ rfl) 1 _) (Fresh.refl _ _)
                have hle : (m.W1.eraseIdx q).length ≤ m.W1.length := by rw [List.length_eraseIdx]; split <;> omega
                exact ⟨j + 1, { m with F1 := F', y := m.y.come p, wv1 := .slice a5 nd k5, W1 := m.W1.eraseIdx q }, rfl, by go_num, hid (by have := Hd.out; omega), hid A6, hid ((HI.out.swap.come HPM.out).lose q).swap, hid (by obtain ⟨f1, f2, f3, f4⟩ := HF.out; exact ⟨by show m.A0.length ≤ _; omega, by show m.A1.length ≤ _; omega, by simp only; omega, by simp only; omega⟩), hid (All.after (All.after HU4.out HA4.out (i := 7) rfl D4.out hB) AL5.out (i := 11) rfl u6 hB)⟩
        · go_wp2_with fail
          refine (rest_some _ _ _ (by omega) (by omega)).mono ?_
          rintro e w' ⟨rt, hrt, -, rfl, rfl⟩
          have hrt' : rt = 0 ∨ rt = 1 := by omega
          clear hrt
          rcases hrt' with rfl | rfl
          · go_wp2_with fail
            refine (a_tick HA.out (i := 1) rfl).mono ?_
            rintro e w4 ⟨rfl, ha, hu⟩
            have HA4 := hid ha
            have HU4 := hid (All.after HU.out HA.out (i := 1) rfl hu hB)
            clear ha hu
            go_wp2_with fail
            go_roundg (n - (j + 1))
            case measure => have := Hd.out; omega
            case rel => exact ⟨j + 1, { m with y := etick m.y }, rfl, by go_num, hid (by have := Hd.out; omega), HA4, hid HI.out.swap.tick.swap, hid (by obtain ⟨f1, f2, f3, f4⟩ := HF.out; exact ⟨by show m.A0.length ≤ _; omega, by show m.A1.length ≤ _; omega, by show m.W0.length ≤ _; omega, by show m.W1.length ≤ _; omega⟩), HU4⟩
          · have HAN : Hid (∀ k, All Q8 (wr.drewN k) (m.lst gx gy Q8 Q9 Q11 Q12)) := hid (fun k => HA.out.new ((Upd.refl [] wr).drewN k))
            go_upto_region 13 with (fail)
            refine J.J_begin (fun wz => wz.cell? ⟨Q9, 1, none⟩ = some m.gv1) 8 (by kernel_rfl) ⟨by kernel_rfl, by kernel_rfl, by kernel_rfl⟩ ((blk_cell ((HAN.out 1).hold 9 _ rfl) 1).trans rfl) (fun LAST HS => ?_)
            refine J.J_take (i := 0) (v := ?_) LAST (by rfl) (by decide) (by kernel_rfl) (by kernel_rfl) (by intro _ _ _ h; exact h) HS (Or.inl ⟨by rfl, ?_⟩) ?_
            rotate_left
            · intro w hSw; (try dsimp only at hSw); go_simp; try with_reducible rfl
            try simp only [Act.put, List.setIfInBounds_toArray, List.set_cons_zero, List.set_cons_succ]
            refine J.J_take (i := 1) (v := ?_) LAST (by rfl) (by decide) (by kernel_rfl) (by kernel_rfl) (by intro _ _ _ h; exact h) HS (Or.inl ⟨by rfl, ?_⟩) ?_
            rotate_left
            · intro w hSw; (try dsimp only at hSw); go_simp; try with_reducible rfl
            try simp only [Act.put, List.setIfInBounds_toArray, List.set_cons_zero, List.set_cons_succ]
            refine J.J_take (i := 2) (v := ?_) LAST (by rfl) (by decide) (by kernel_rfl) (by kernel_rfl) (by intro _ _ _ h; exact h) HS (Or.inl ⟨by rfl, ?_⟩) ?_
            rotate_left
            · intro w hSw; (try dsimp only at hSw); go_simp; try with_reducible rfl
            try simp only [Act.put, List.setIfInBounds_toArray, List.set_cons_zero, List.set_cons_succ]
            refine J.J_take (i := 3) (v := ?_) LAST (by rfl) (by decide) (by kernel_rfl) (by kernel_rfl) (by intro _ _ _ h; exact h) HS (Or.inl ⟨by rfl, ?_⟩) ?_
            rotate_left
            · intro w hSw; (try dsimp only at hSw); go_simp; try with_reducible rfl
            try simp only [Act.put, List.setIfInBounds_toArray, List.set_cons_zero, List.set_cons_succ]
            refine J.J_take (i := 4) (v := ?_) LAST (by rfl) (by decide) (by kernel_rfl) (by kernel_rfl) (by intro _ _ _ h; exact h) HS (Or.inl ⟨by rfl, ?_⟩) ?_
            rotate_left
            · intro w hSw; (try dsimp only at hSw); go_simp; try with_reducible rfl
            try simp only [Act.put, List.setIfInBounds_toArray, List.set_cons_zero, List.set_cons_succ]
            refine J.J_one (i := 5) (by rfl) (by decide) (by kernel_rfl) (fun KK hK => ?_)
            go_simp
            refine (a_got (HAN.out 1) (i := 1) rfl).mono ?_
            rintro e w4 ⟨F', v, rs, rfl, ow, bs, ha, hu⟩
            have HA4 := hid ha
            have HU4 := hid (All.after (HU.out.drewN 1) (HAN.out 1) (i := 1) rfl hu hB)
            obtain ⟨gs, og, bg⟩ := ha.hold 5 _ rfl
            obtain ⟨ng, hng⟩ : ∃ ng, ng = m.G1.length := ⟨_, rfl⟩
            obtain ⟨nr, hnr⟩ : ∃ nr, nr = m.y.read.length := ⟨_, rfl⟩
            have OG : Hid (w4.ownsRow 0 29 1 m.gv1 ng gs) := hid (by rw [hng]; exact og)
            have OR : Hid (w4.ownsRow 0 29 1 v nr rs) := hid (by rw [hnr]; exact ow)
            have BG := hid bg
            have BR := hid bs
            have HNG := hid hng
            have HNR := hid hnr
            have hlen : ng + nr ≤ 300 := by
              obtain ⟨f1, f2, f3, f4⟩ := HF.out
              have h1 := congrArg List.length (HI.out.swap.yx.got)
              simp only [List.length_append, List.length_take] at h1
              omega
            have HS1 : w4.cell? ⟨Q9, 1, none⟩ = some m.gv1 := (blk_cell (ha.hold 9 _ rfl) 1).trans rfl
            obtain ⟨va, vk, ev, -⟩ := own_view OR.out
            subst ev
            clear ha hu ow bs og bg hng hnr
            go_wp2_with fail
            refine hK.out _ _ HS1 ?_
            clear hK KK HS
            try simp only [List.setIfInBounds_toArray]
            refine J.J_one (i := 6) (by rfl) (by decide) (by kernel_rfl) (fun KK hK => ?_)
            refine step_app_row rfl (.tmp 59) (.tmp 61) 37 rfl 29 i29 _ 1 24 Try.underlying37 HI29.out HA29.out HB29.out HC29.out rfl (by decide) m.gv1 ng gs (by rfl) OG.out (.slice va nr vk) nr 0 rs (by rfl) OR.out BR.out.ones (by unfold maxLen; omega) (by omega) ?_
            intro v5 w5 ho hu5 hl5
            obtain ⟨a5, k5, e5, -⟩ := own_view ho
            subst e5
            have HU5 := hid hu5
            have al5 := HA4.out.set (i := 5) (a' := rowI (.slice a5 (ng + nr) k5) (m.G1 ++ m.y.read)) rfl hu5 ⟨_, by rw [List.length_append, ← HNG.out, ← HNR.out]; exact ho, (BG.out.upd hu5 (fun s hs => Itm.nob _ (HA4.out.hold 5 _ rfl) s hs)).append (BR.out.upd hu5 (fun s hs => Itm.nob _ (HA4.out.hold 5 _ rfl) s hs))⟩ (fun s hs => (hl5 s (by simpa [rowI] using hs)).imp (fun q => by simpa [rowI] using q) id)
            have AL5 := hid al5
            have c9 := al5.hold 9 _ rfl
            have HS5 : w5.cell? ⟨Q9, 1, none⟩ = some m.gv1 := (blk_cell c9 1).trans rfl
            have c9f := blk_frozen c9
            clear ho hu5 hl5 al5 c9
            refine hK.out _ _ HS5 ?_
            clear hK KK HS1
            try simp only [Act.put, List.setIfInBounds_toArray, List.set_cons_zero, List.set_cons_succ]
            refine J.J_take (i := 7) (v := ?_) LAST (by rfl) (by decide) (by kernel_rfl) (by kernel_rfl) (by intro _ _ _ h; exact h) HS5 (Or.inl ⟨by rfl, ?_⟩) ?_
            rotate_left
            · intro w hSw; (try dsimp only at hSw); go_simp; try with_reducible rfl
            try simp only [Act.put, List.setIfInBounds_toArray, List.set_cons_zero, List.set_cons_succ]
            refine J.J_last (by rfl) (by kernel_rfl) (by kernel_rfl) ?_
            go_simp
            go_wp2_with fail
            go_roundg (n - (j + 1))
            case measure => have := Hd.out; omega
            case rel =>
              have u6 : Upd [Q9] w5 (w5.setCell ⟨Q9, 1, none⟩ (.slice a5 (ng + nr) k5)) := (Upd.refl _ _).setCell (.inl (by simp)) _
              have A6 := AL5.out.set (i := 9) (a' := blkI Q9 #[m.gv0, .slice a5 (ng + nr) k5] 46 (by decide)) rfl u6 (blk_set (AL5.out.hold 9 _ rfl) 1 _) (Fresh.refl _ _)
              exact ⟨j + 1, { m with F1 := F', y := egot m.y, gv1 := .slice a5 (ng + nr) k5, G1 := m.G1 ++ m.y.read }, rfl, by go_num, hid (by have := Hd.out; omega), hid A6, hid HI.out.swap.gotten.swap, hid (by obtain ⟨f1, f2, f3, f4⟩ := HF.out; exact ⟨by show m.A0.length ≤ _; omega, by show m.A1.length ≤ _; omega, by show m.W0.length ≤ _; omega, by show m.W1.length ≤ _; omega⟩), hid (All.after (All.after HU4.out HA4.out (i := 5) rfl HU5.out hB) AL5.out (i := 9) rfl u6 hB)⟩
    · obtain rfl : j = n := by have := Hd.out; omega
      have c8 := HA.out.hold 8 _ rfl
      have c9 := HA.out.hold 9 _ rfl
      have d0 : wr.cell? ⟨Q8, 0, none⟩ = some m.pv0 := (blk_cell c8 0).trans rfl
      have d1 : wr.cell? ⟨Q8, 1, none⟩ = some m.pv1 := (blk_cell c8 1).trans rfl
      have d2 : wr.cell? ⟨Q9, 0, none⟩ = some m.gv0 := (blk_cell c9 0).trans rfl
      have d3 : wr.cell? ⟨Q9, 1, none⟩ = some m.gv1 := (blk_cell c9 1).trans rfl
      clear c8 c9
      go_wp2_with fail
      (try simp only [Exit.inBlock, Exit.then])
      refine bodyPost_ret (v := .tuple #[.pointer (some ⟨gx, 0, none⟩), .pointer (some ⟨gy, 0, none⟩), .agg #[m.pv0, m.pv1], .agg #[m.gv0, m.gv1], .bool true]) (by simp [results, Try.results26, go_sem, d0, d1, d2, d3]; try rfl) rfl ?_
      refine ⟨gx, gy, Q8, Q9, Q11, Q12, m, rfl, ?_, HI.out, ?_, HU.out⟩
      · rw [← HQ8.out]; exact HA.out
      · obtain ⟨f1, f2, f3, f4⟩ := HF.out; exact ⟨by omega, by omega, by omega, by omega⟩
end Go.Proofs.Ytgkjkgooonicbaa.Lm
