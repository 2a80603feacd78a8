/- The walk of the statement LineWindow: no more is kept than the window, no more is told than the other end takes. -/
import Derived.Test.YtgkjkgooonicbaaLt
namespace Go.Proofs.Ytgkjkgooonicbaa.Lm
open Go Go.RowKit Go.Proofs.Ytgkjkgooonicbaa Go.Proofs.Ytgkjkgooonicbaa.K Go.Proofs.Ytgkjkgooonicbaa.M Go.Proofs.Ytgkjkgooonicbaa.O Go.Proofs.Ytgkjkgooonicbaa.R

theorem small_of {L : List (List Nat)} (h : ∀ b ∈ L, b.length ≤ 1) (i : Nat) : (L.getD i []).length ≤ 1 := by
  rw [List.getD_eq_getElem?_getD]
  cases hx : L[i]? with
  | none => simp
  | some b => simpa using h b (List.mem_of_getElem? hx)
/-- The other end, as the packets come. -/
structure YS (O j : Nat) (y : E) : Prop where
  win : y.window = O
  base : y.base = 0
  kept : y.kept = []
  told : y.told = 0
  want : y.want = min j O
  read : y.read.length = min j O
  lim : y.limit ≤ 16
  owe : 0 < j → y.owe = true
theorem YS.ok {O j : Nat} {y : E} (h : YS O j y) (hO : O ≤ 16) : y.Ok :=
  ⟨by rw [h.win]; exact hO, by rw [h.kept]; simp, by rw [h.read, h.win]; omega, h.lim, by rw [h.base]; omega, by rw [h.want]; omega, fun i => by rw [h.kept]; simp⟩
theorem YS.step {O j W : Nat} {y : E} (h : YS O j y) (hW : W ≤ 16) (b : List Nat) : YS O (j + 1) (y.come ⟨j, 0, true, W, b⟩) := by
  have ha : y.acked ⟨j, 0, true, W, b⟩ = { y with limit := max y.limit W } := by
    unfold E.acked
    rw [if_neg (by rw [h.base]; simp), if_pos h.base.symm]
  have hl := h.lim
  unfold E.come
  rw [if_pos rfl, ha]
  by_cases q : j < O
  · have hw : j = y.want := by rw [h.want]; omega
    rw [if_pos ⟨hw, by rw [h.read, h.win]; omega⟩]
    exact ⟨h.win, h.base, h.kept, h.told, by show y.want + 1 = _; rw [← hw]; omega, by show (y.read ++ [b]).length = _; rw [List.length_append, h.read]; simp; omega, by show max y.limit W ≤ 16; omega, fun _ => rfl⟩
  · rw [if_neg (fun z => by have := h.read; have := h.win; omega)]
    exact ⟨h.win, h.base, h.kept, h.told, by show y.want = _; rw [h.want]; omega, by show y.read.length = _; rw [h.read]; omega, by show max y.limit W ≤ 16; omega, fun _ => rfl⟩
theorem YS.out {O j : Nat} {y : E} (h : YS O j y) (hj : 0 < j) : y.out = [⟨0, min j O, false, O - min j O, []⟩] := by
  unfold E.out E.top E.ans
  rw [h.kept, h.told, if_neg (by simp), if_pos (h.owe hj), h.base, h.want, h.win, h.read]
  rfl
/-- The sending end with these bodies, all of them told. -/
theorem x_out (W : Nat) (L : List (List Nat)) (hL : L.length = W) (hW : 0 < W) : (({ E.new W with kept := L } : E).out = ({ E.new W with kept := L } : E).says 0 W) ∧ (({ E.new W with kept := L } : E).outE = { E.new W with kept := L, told := W }) := by
  have ht : ({ E.new W with kept := L } : E).top = W := by unfold E.top; show min L.length W = W; omega
  refine ⟨?_, ?_⟩
  · unfold E.out
    rw [ht, if_pos (by show 0 < W; exact hW)]
    rfl
  · unfold E.outE
    rw [ht]
    show ({ E.new W with kept := L, told := max 0 W } : E) = _
    rw [Nat.zero_max]
theorem x_out2 (W : Nat) (L : List (List Nat)) (hL : L.length = W) : (({ E.new W with kept := L, told := W } : E).out = []) ∧ (({ E.new W with kept := L, told := W } : E).outE = { E.new W with kept := L, told := W }) := by
  have ht : ({ E.new W with kept := L, told := W } : E).top = W := by unfold E.top; show min L.length W = W; omega
  refine ⟨?_, ?_⟩
  · unfold E.out
    rw [ht, if_neg (by show ¬ W < W; omega)]
    rfl
  · unfold E.outE
    rw [ht]
    show ({ E.new W with kept := L, told := max W W } : E) = _
    rw [Nat.max_self]
theorem x_ack (W m wn : Nat) (L : List (List Nat)) (b : List Nat) (hL : L.length = W) (h1 : 1 ≤ m) (h2 : m ≤ W) : ({ E.new W with kept := L, told := W } : E).come ⟨0, m, false, wn, b⟩ = { E.new W with kept := L.drop m, base := m, told := W - m, limit := wn } := by
  unfold E.come
  rw [if_neg (by simp)]
  unfold E.acked
  rw [if_pos ⟨by show 0 < m; omega, by show m ≤ 0 + L.length; omega⟩]
  rfl
theorem says_get (e : E) (k : Nat) : ∀ n, k < n → (e.says 0 n).getD k noPk = e.say k
  | 0, h => by omega
  | n + 1, h => by
    rw [List.getD_eq_getElem?_getD]
    show ((e.says 0 n ++ [e.say (0 + n)])[k]?).getD noPk = _
    by_cases q : k < n
    · rw [List.getElem?_append_left (by rw [E.says_len]; exact q), ← List.getD_eq_getElem?_getD]; exact says_get e k n q
    · have : k = n := by omega
      subst this
      rw [List.getElem?_append_right (by rw [E.says_len]; exact Nat.le_refl _), E.says_len]
      simp

set_option maxHeartbeats 4000000 in
set_option maxRecDepth 100000 in
theorem window_walk (a b n : Int) (w : World) : Calls Try.prog 3 #[.int .i64 a, .int .i64 b, .int .i64 n] w fun e w' => e = .returned (.bool true) ∧ Upd [] w w' := by
  obtain ⟨bn, hbn⟩ : ∃ bn : Nat, IntKind.u8.wrap n = (bn : Int) := ⟨(IntKind.u8.wrap n).toNat, by rw [IntKind.wrap_u8]; omega⟩
  have HBN := hid hbn
  clear hbn
  go_enter Try.func3, Try.ntmps3
  go_wp2_with fail
  refine (begun_any w).mono ?_
  rintro e w1 ⟨rfl, hu⟩
  have U1 := hid hu
  clear hu
  go_wp2_with fail
  refine (lines_any a b w1).mono ?_
  rintro e w2 ⟨gx, gy, rfl, ht, hu⟩
  have T2 := hid ht
  have U2 := hid (U1.out.trans hu (fun t ht => by cases ht))
  have hB : w.heap.size ≤ w1.heap.size := U1.out.size
  clear ht hu
  go_wp2_with fail
  refine (rest_some _ _ _ (by omega) (by omega)).mono ?_
  rintro e w' ⟨r1, hr1, H1, rfl, rfl⟩
  go_wp2_with fail
  refine (rest_some _ _ _ (by omega) (by omega)).mono ?_
  rintro e w' ⟨r2, hr2, H2, rfl, rfl⟩
  have T3 : Hid (Two w1.heap.size gx gy (E.new (1 + r1)) (E.new (1 + r2)) w2) := hid (by rw [H1.out, H2.out]; exact T2.out)
  obtain ⟨W, hW⟩ : ∃ W, W = 1 + r1 := ⟨_, rfl⟩
  obtain ⟨O, hO⟩ : ∃ O, O = 1 + r2 := ⟨_, rfl⟩
  rw [← hW, ← hO] at T3
  have eW : (1 : Int) + (r1 : Int) = (W : Int) := by omega
  have eO : (1 : Int) + (r2 : Int) = (O : Int) := by omega
  have hW1 : 1 ≤ W := by omega
  have hW2 : W ≤ 16 := by omega
  have hO1 : 1 ≤ O := by omega
  have hO2 : O ≤ 16 := by omega
  have EW := hid eW
  have EO := hid eO
  clear T2 eW eO hW hO
  go_upto_region 7 with (fail)
  rw [EW.out, EO.out]
  clear hr1 hr2 H1 H2 EW EO
  go_wp2_with fail
  go_loopg [36] W (fun d v36 wr => ∃ (i : Nat) (L : List (List Nat)), v36 = .int .i64 (i : Int) ∧ i ≤ W ∧ Hid (i + d = W) ∧ Hid (L.length = i) ∧ Hid (∀ b ∈ L, b.length ≤ 1) ∧ Hid (Two w1.heap.size gx gy { E.new W with kept := L } (E.new O) wr) ∧ Hid (Upd [] w wr))
  case atStart => exact ⟨0, [], rfl, by omega, hid (by omega), hid rfl, hid (by simp), T3, U2⟩
  case round =>
    obtain ⟨i, L, rfl, hi, Hd, HL, HS, HT, HU⟩ := hrel
    by_cases hiW : i < W
    · have hi' : (i : Int) < (W : Int) := by omega
      have w8 : IntKind.u8.wrap (i : Int) = (i : Int) := IntWalk.u8_in _ (by omega)
      go_wp2_with fail
      refine (t_put (HT.out.new ((Upd.refl [] _).alloc _)) (body_new wr i) (by simp) (by show L.length < W; rw [HL.out]; exact hiW) (by show W ≤ 16; exact hW2)).mono ?_
      rintro e w4 ⟨rfl, ht, hs⟩
      have HT4 := hid ht
      have HU4 := hid (hs.after (HU.out.alloc _) hB)
      clear ht hs w8
      go_wp2_with fail
      go_roundg (W - (i + 1))
      case measure => have := Hd.out; omega
      case rel => exact ⟨i + 1, L ++ [[i]], by go_num, by omega, hid (by omega), hid (by rw [List.length_append, HL.out]; rfl), hid (fun b hb => by
          rcases List.mem_append.1 hb with q | q
          · exact HS.out b q
          · simp at q; subst q; simp), HT4, HU4⟩
    · obtain rfl : i = W := by omega
      have XO := hid (x_out i L HL.out (by omega))
      have XO2 := hid (x_out2 i L HL.out)
      go_wp2_with fail
      refine (t_full HT.out none 0 0 (by omega) (by show L.length = i; exact HL.out)).mono ?_
      rintro e w4 ⟨rfl, ht, hu⟩
      have HT4 := hid ht
      have HU4 := hid (HU.out.trans hu (fun t ht => by cases ht))
      clear ht hu
      go_wp2_with fail
      have OKX : Hid (({ E.new i with kept := L } : E).Ok ∧ ({ E.new i with kept := L, told := i } : E).Ok) := hid ⟨⟨hW2, by show L.length ≤ i; rw [HL.out]; exact Nat.le_refl _, by show 0 ≤ i; omega, hW2, by show 0 ≤ _; omega, by show 0 ≤ _; omega, fun j => Nat.le_trans (small_of HS.out j) (by omega)⟩, ⟨hW2, by show L.length ≤ i; rw [HL.out]; exact Nat.le_refl _, by show 0 ≤ i; omega, hW2, by show 0 ≤ _; omega, by show 0 ≤ _; omega, fun j => Nat.le_trans (small_of HS.out j) (by omega)⟩⟩
      refine (t_out HT4.out OKX.out.1).mono ?_
      rintro e w5 ⟨v, rfl, hp, ht, hs⟩
      rw [XO.out.1] at hp
      rw [XO.out.2] at ht
      obtain ⟨pa, pk, e1, pl1, pl2⟩ := hp.shape
      rw [E.says_len] at e1 pl1
      subst e1
      have HP5 := hid hp
      have HT5 := hid ht
      have HU5 := hid (hs.after HU4.out hB)
      clear hp ht hs
      go_wp2_with fail
      refine (t_out HT5.out OKX.out.2).mono ?_
      rintro e w6 ⟨v, rfl, hp, ht, hs⟩
      rw [XO2.out.1] at hp
      rw [XO2.out.2] at ht
      obtain ⟨qa, qk, e1, ql1, ql2⟩ := hp.shape
      subst e1
      have HP6 := hid (hs.pks HP5.out)
      have HT6 := hid ht
      have HU6 := hid (hs.after HU5.out hB)
      clear hp ht hs HP5
      go_wp2_with fail
      go_loopg [63] i (fun d v63 wr => ∃ (j : Nat) (y : E), v63 = .int .i64 (j : Int) ∧ j ≤ i ∧ Hid (j + d = i) ∧ Hid (YS O j y) ∧ Hid (IsPks wr w4.heap.size (.slice pa i pk) (({ E.new i with kept := L } : E).says 0 i)) ∧ Hid (Two w1.heap.size gx gy { E.new i with kept := L, told := i } y wr) ∧ Hid (Upd [] w wr))
      case atStart => exact ⟨0, E.new O, rfl, by omega, hid (by omega), hid ⟨rfl, rfl, rfl, rfl, by show 0 = _; omega, by show 0 = _; omega, hO2, fun h => by omega⟩, HP6, HT6, HU6⟩
      case round =>
        obtain ⟨j, y, rfl, hj, Hd2, HY, HPj, HTj, HUj⟩ := hrel
        by_cases hji : j < i
        · have hj' : (j : Int) < (i : Int) := by omega
          obtain ⟨g, k, u, e1, _, _, c0, c1, c2, c3, c4, hb⟩ := HPj.out.get (i := j) (by rw [E.says_len]; exact hji)
          rw [says_get _ j i hji] at c0 c1 c2 c3 hb
          simp only [Value.slice.injEq] at e1
          obtain ⟨rfl, -, -⟩ := e1
          have f0 : wr.cell? ⟨g, j * 5, none⟩ = some (.int .u32 (j : Int)) := by rw [c0]; simp [E.say, E.new]
          have f1 : wr.cell? ⟨g, j * 5 + 1, none⟩ = some (.int .u32 0) := by rw [c1]; rfl
          have f2 : wr.cell? ⟨g, j * 5 + 2, none⟩ = some (.bool true) := by rw [c2]; rfl
          have f3 : wr.cell? ⟨g, j * 5 + 3, none⟩ = some (.int .i64 (i : Int)) := by rw [c3]; rfl
          obtain ⟨bb, hbb⟩ : ∃ bb, bb = L.getD j [] := ⟨_, rfl⟩
          have hb2 : Body wr u bb := by rw [hbb]; exact hb
          have hbs : bb.length ≤ 1 := by rw [hbb]; exact small_of HS.out j
          obtain ⟨ba, bk, e1, -⟩ := id hb2
          obtain ⟨bl, hbl⟩ : ∃ bl, bl = bb.length := ⟨_, rfl⟩
          rw [← hbl] at e1
          subst e1
          have HB := hid hb2
          have HBS := hid hbs
          clear c0 c1 c2 c3 hb hbb hb2 hbs hbl
          go_wp2_with fail
          refine (t_come (HTj.out.new ((Upd.refl [] _).alloc _)).swap (HY.out.ok hO2) ⟨j, 0, true, i, bb⟩ _ (HB.out.upd ((Upd.refl [] _).alloc _) (NoB.nil _)) (by show i ≤ 16; exact hW2) (by show bb.length ≤ _; have := HBS.out; omega) (by show 0 ≤ _; omega) (by show j ≤ _; omega) (by rw [HY.out.told]; omega)).mono ?_
          rintro e w7 ⟨rfl, ht, hs⟩
          have HT7 := hid ht.swap
          have HU7 := hid (hs.after (HUj.out.alloc _) hB)
          have HP7 := hid (hs.pks (HPj.out.upd ((Upd.refl [] _).alloc _) (fun _ _ q => by cases q) (NoB.nil _)))
          clear ht hs
          go_wp2_with fail
          go_roundg (i - (j + 1))
          case measure => have := Hd2.out; omega
          case rel => exact ⟨j + 1, _, by go_num, by omega, hid (by omega), hid (HY.out.step hW2 bb), HP7, HT7, HU7⟩
        · obtain rfl : j = i := by omega
          obtain ⟨mw, hmw⟩ : ∃ mw : Nat, min (j : Int) (O : Int) = (mw : Int) := ⟨min j O, by omega⟩
          have hmin := fun ats ty => min_nat ats ty .i64 .i64 (j : Int) (O : Int) mw hmw
          have HMW : Hid (mw = min j O) := hid (by omega)
          have hmw1 : 1 ≤ mw := by omega
          have hmw2 : mw ≤ j := by omega
          have hmw3 : mw ≤ O := by omega
          clear hmw
          have HMIN := hid hmin
          clear hmin
          go_wp2_with fail
          refine (t_out HTj.out.swap (HY.out.ok hO2)).mono ?_
          rintro e w7 ⟨v, rfl, hp, ht, hs⟩
          rw [HY.out.out (by omega), ← HMW.out] at hp
          obtain ⟨g, k, u, e1, pl3, pl4, c0, c1, c2, c3, c4, hb⟩ := hp.get (i := 0) (by simp)
          subst e1
          have HT7 := hid ht.swap
          have HU7 := hid (hs.after HUj.out hB)
          have HB := hid hb
          obtain ⟨ba, bk, e1, -⟩ := id hb
          subst e1
          have hmin := HMIN.out
          have w32 : IntKind.u32.wrap (mw : Int) = (mw : Int) := IntWalk.u32_in _ (by omega)
          have f3 : w7.cell? ⟨g, 3, none⟩ = some (.int .i64 ((O : Int) - (mw : Int))) := by rw [show (O : Int) - (mw : Int) = ((O - mw : Nat) : Int) by omega]; exact c3
          have f1 : w7.cell? ⟨g, 1, none⟩ = some (.int .u32 (mw : Int)) := c1
          have f0 : w7.cell? ⟨g, 0, none⟩ = some (.int .u32 0) := c0
          have f2 : w7.cell? ⟨g, 2, none⟩ = some (.bool false) := c2
          have f4 : w7.cell? ⟨g, 4, none⟩ = some (.slice ba 0 bk) := c4
          clear hp ht hs hb c0 c1 c2 c3 c4
          go_wp2_with fail
          rw [show (O : Int) - (mw : Int) = ((O - mw : Nat) : Int) by omega]
          refine (t_come HT7.out OKX.out.2 ⟨0, mw, false, O - mw, []⟩ _ HB.out (by show O - mw ≤ 16; omega) (by show 0 ≤ _; omega) (by show mw ≤ _; omega) (by show 0 ≤ _; omega) (by show j ≤ 100; omega)).mono ?_
          rintro e w8 ⟨rfl, ht, hs⟩
          rw [x_ack j mw (O - mw) L [] HL.out hmw1 hmw2] at ht
          have HT8 := hid ht
          have HU8 := hid (hs.after HU7.out hB)
          clear ht hs f0 f1 f2 f3 f4 w32 hmin
          go_wp2_with fail
          go_loopg [17] mw (fun d v17 wr => ∃ (f : Nat) (K : List (List Nat)), v17 = .int .i64 (f : Int) ∧ f ≤ mw ∧ Hid (f + d = mw) ∧ Hid (K.length + mw = j + f) ∧ Hid (Two w1.heap.size gx gy { E.new j with kept := K, base := mw, told := j - mw, limit := O - mw } y.outE wr) ∧ Hid (Upd [] w wr))
          case atStart => exact ⟨0, L.drop mw, rfl, by omega, hid (by omega), hid (by rw [List.length_drop, HL.out]; omega), HT8, HU8⟩
          case round =>
            obtain ⟨f, K, rfl, hf, Hd3, HK, HTf, HUf⟩ := hrel
            have hbn := HBN.out
            by_cases hfm : f < mw
            · have hf16 : ¬ (16 : Int) < (f : Int) + 1 := by omega
              go_wp2_with fail
              refine (t_put (HTf.out.new ((Upd.refl [] _).alloc _)) (body_new _ bn) (by simp) (by show K.length < j; have := HK.out; omega) (by show j ≤ 16; exact hW2)).mono ?_
              rintro e w9 ⟨rfl, ht, hs⟩
              have HT9 := hid ht
              have HU9 := hid (hs.after (HUf.out.alloc _) hB)
              clear ht hs hbn
              go_wp2_with fail
              go_roundg (mw - (f + 1))
              case measure => have := Hd3.out; omega
              case rel => exact ⟨f + 1, K ++ [[bn]], by go_num, by omega, hid (by omega), hid (by rw [List.length_append]; have := HK.out; simp; omega), HT9, HU9⟩
            · obtain rfl : f = mw := by omega
              have hmin := HMIN.out
              go_wp2_with fail
              refine (t_full (HTf.out.new ((Upd.refl [] _).alloc _)) _ 1 1 (by omega) (by show K.length = j; have := HK.out; omega)).mono ?_
              rintro e w9 ⟨rfl, ht, hu⟩
              have HU9 := hid ((HUf.out.alloc _).trans hu (fun t ht => by cases ht))
              clear ht hu hbn
              go_wp2_with fail
              go_ret
              exact ⟨rfl, HU9.out⟩
end Go.Proofs.Ytgkjkgooonicbaa.Lm
