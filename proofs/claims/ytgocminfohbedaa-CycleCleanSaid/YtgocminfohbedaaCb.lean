/- cycle.Passes. -/
import Derived.Test.YtgocminfohbedaaCa
namespace Go.Proofs.Ytgocminfohbedaa.Cy
open Go Go.RowKit Go.Proofs.Ytgocminfohbedaa Go.Proofs.Ytgocminfohbedaa.K Go.Proofs.Ytgocminfohbedaa.M Go.Proofs.Ytgocminfohbedaa.O Go.Proofs.Ytgocminfohbedaa.So

theorem info3 : (Try.prog.info? 3).map (fun i => (i.zero, i.size, i.bytes)) = some (some (.int .i64 0), 1, 8) := by kernel_rfl
theorem info22 : (Try.prog.info? 22).map (fun i => (i.zero, i.size, i.bytes)) = some (some (.slice none 0 0), 1, 24) := by kernel_rfl
/-- Rows of numbers, each in a block of its own below M. -/
def RowsAt (w : World) (us : List Value) (P : List (List Int)) (M : Nat) : Prop := us.length = P.length ∧ ∀ i, i < P.length → ∃ r k cur, us.getD i undef = .slice (some ⟨r, 0, none⟩) (P.getD i []).length k ∧ w.heap[r]? = some (.cells cur 3 (0, 0)) ∧ IntRow w (some ⟨r, 0, none⟩) (P.getD i []) ∧ r < M
theorem introw_keep {w w' : World} {r : Nat} {xs : List Int} (h : IntRow w (some ⟨r, 0, none⟩) xs) {S : List Nat} (u : Upd S w w') (hs : r ∉ S) : IntRow w' (some ⟨r, 0, none⟩) xs := fun i hi => by
  obtain ⟨x, e, c⟩ := h i hi
  cases e
  refine ⟨_, rfl, u.cell c ?_⟩
  have : ((⟨r, 0, none⟩ : Addr).add i).block = r := by unfold Addr.add; split <;> simp_all
  rw [this]; exact hs
theorem RowsAt.keep {w w' : World} {us : List Value} {P : List (List Int)} {M : Nat} (h : RowsAt w us P M) {S : List Nat} (u : Upd S w w') (hs : ∀ r cur, r < M → w.heap[r]? = some (.cells cur 3 (0, 0)) → r ∉ S) {M' : Nat} (hM : M ≤ M') : RowsAt w' us P M' :=
  ⟨h.1, fun i hi => by
    obtain ⟨r, k, cur, e, hb, hr, hlt⟩ := h.2 i hi
    have hn := hs r cur hlt hb
    exact ⟨r, k, cur, e, u.blk hb hn, introw_keep hr u hn, by omega⟩⟩
theorem RowsAt.new {w w' : World} {us : List Value} {P : List (List Int)} {M : Nat} (h : RowsAt w us P M) (u : Upd [] w w') : RowsAt w' us P M := h.keep u (fun _ _ _ _ hs => by cases hs) (Nat.le_refl _)
theorem RowsAt.map {w w' : World} {us : List Value} {P : List (List Int)} {M b : Nat} {m : Mp} (h : RowsAt w us P M) (hm : IsMap w b m) (u : Upd [b] w w') : RowsAt w' us P M := h.keep u (fun r cur _ hb hs => by simp at hs; subst hs; exact hm.ne_cells hb rfl) (Nat.le_refl _)
theorem RowsAt.out {w w' : World} {us : List Value} {P : List (List Int)} {M B n : Nat} {v : Value} {xs : List Value} (h : RowsAt w us P M) (ho : w.ownsRow B 22 1 v n xs) (u : Upd v.ownBlock.toList w w') {M' : Nat} (hM : M ≤ M') : RowsAt w' us P M' := h.keep u (fun r cur _ hb hs => own_cells_ne ho hb (by decide) r (by simpa using hs) rfl) hM
theorem RowsAt.own {w w' : World} {us : List Value} {P : List (List Int)} {M n : Nat} {v : Value} {xs : List Value} (h : RowsAt w us P M) (ho : w.ownsRow M 3 1 v n xs) (u : Upd v.ownBlock.toList w w') : RowsAt w' us P M := h.keep u (fun r cur hlt _ hs => by have := own_ge ho r (by simpa using hs); omega) (Nat.le_refl _)
theorem RowsAt.snoc {w : World} {us : List Value} {P : List (List Int)} {M : Nat} (h : RowsAt w us P M) {r k : Nat} {cur : Array Value} {p : List Int} (hb : w.heap[r]? = some (.cells cur 3 (0, 0))) (hr : IntRow w (some ⟨r, 0, none⟩) p) (hlt : r < M) : RowsAt w (us ++ [.slice (some ⟨r, 0, none⟩) p.length k]) (P ++ [p]) M := by
  refine ⟨by simp [h.1], fun i hi => ?_⟩
  by_cases c : i < P.length
  · obtain ⟨r', k', cur', e, h1, h2, h3⟩ := h.2 i c
    have e1 : (P ++ [p]).getD i [] = P.getD i [] := by rw [List.getD_eq_getElem?_getD, List.getElem?_append_left c, ← List.getD_eq_getElem?_getD]
    have e2 : (us ++ [Value.slice (some ⟨r, 0, none⟩) p.length k]).getD i undef = us.getD i undef := by rw [List.getD_eq_getElem?_getD, List.getElem?_append_left (by rw [h.1]; exact c), ← List.getD_eq_getElem?_getD]
    rw [e1, e2]
    exact ⟨r', k', cur', e, h1, h2, h3⟩
  · have hi' : i = P.length := by simp at hi; omega
    subst hi'
    have e1 : (P ++ [p]).getD P.length [] = p := by rw [List.getD_eq_getElem?_getD, List.getElem?_append_right (Nat.le_refl _)]; simp
    have e2 : (us ++ [Value.slice (some ⟨r, 0, none⟩) p.length k]).getD P.length undef = .slice (some ⟨r, 0, none⟩) p.length k := by rw [List.getD_eq_getElem?_getD, List.getElem?_append_right (by rw [h.1]; exact Nat.le_refl _), h.1]; simp
    rw [e1, e2]
    exact ⟨r, k, cur, rfl, hb, hr, hlt⟩
theorem own_row {w : World} {B : Nat} {v : Value} {xs : List Int} (h : w.ownsRow B 3 1 v xs.length (ints xs)) (h0 : xs ≠ []) : ∃ r k cur, v = .slice (some ⟨r, 0, none⟩) xs.length k ∧ w.heap[r]? = some (.cells cur 3 (0, 0)) ∧ IntRow w (some ⟨r, 0, none⟩) xs ∧ B ≤ r := by
  have hp := List.length_pos_iff.2 h0
  obtain ⟨a, k, e, _, _, hc⟩ := own_view h
  obtain ⟨r, ea, hb, _⟩ := hc 0 _ (ints_get xs 0 hp)
  subst ea
  subst e
  obtain ⟨cur, hbl⟩ := own_block h r rfl
  refine ⟨r, k, cur, rfl, hbl, fun i hi => ?_, hb⟩
  obtain ⟨r', e, _, c, _⟩ := hc i _ (ints_get xs i hi)
  cases e
  exact ⟨_, rfl, by rw [show (⟨r, 0, none⟩ : Addr).add i = ⟨r, i, none⟩ by unfold Addr.add; split <;> simp_all]; exact c⟩
theorem flat_len : ∀ {D : List (List Int)}, (∀ p ∈ D, p ≠ []) → D.length ≤ D.flatten.length
  | [], _ => by simp
  | p :: D, h => by
    have h1 := flat_len (D := D) (fun q hq => h q (by simp [hq]))
    have h2 := List.length_pos_iff.2 (h p (by simp))
    simp only [List.flatten_cons, List.length_append, List.length_cons]
    omega
theorem MapB.ext {w : World} {b : Nat} {S S' : List Int} (h : MapB w b S) (he : ∀ x, x ∈ S ↔ x ∈ S') : MapB w b S' := by
  obtain ⟨m, h1, h2⟩ := h
  refine ⟨m, h1, fun x => ?_⟩
  rw [h2 x]
  congr 1
  exact decide_eq_decide.2 (he x)
theorem MapB.own {w w' : World} {b B e n : Nat} {S : List Int} {v : Value} {xs : List Value} (h : MapB w b S) (ho : w.ownsRow B e 1 v n xs) (u : Upd v.ownBlock.toList w w') : MapB w' b S := by
  obtain ⟨m, h1, h2⟩ := h
  exact ⟨m, h1.upd u (fun hs => own_map_ne ho h1 b (by simpa using hs) rfl), h2⟩
theorem MapI.own {w w' : World} {b B e n : Nat} {l : List Know} {v : Value} {xs : List Value} (h : MapI w b l) (ho : w.ownsRow B e 1 v n xs) (u : Upd v.ownBlock.toList w w') : MapI w' b l := by
  obtain ⟨m, h1, h2⟩ := h
  exact ⟨m, h1.upd u (fun hs => own_map_ne ho h1 b (by simpa using hs) rfl), h2⟩
theorem own_map {w w' : World} {b B e n : Nat} {m : Mp} {v : Value} {xs : List Value} (ho : w.ownsRow B e 1 v n xs) (h1 : IsMap w b m) (u : Upd [b] w w') : w'.ownsRow B e 1 v n xs :=
  own_upd ho u (fun k hk hs => by simp at hs; subst hs; exact own_map_ne ho h1 k hk rfl)
theorem addz (r j : Nat) : (⟨r, 0, none⟩ : Addr).add j = ⟨r, j, none⟩ := by unfold Addr.add; split <;> simp_all
/-- A slice of the passes. -/
def PassesOf (w : World) (B : Nat) (v : Value) (l : List Know) : Prop := ∃ P us M, w.ownsRow B 22 1 v P.length us ∧ RowsAt w us P M ∧ Spec l P

set_option maxHeartbeats 16000000 in
set_option maxRecDepth 100000 in
theorem passes_any {w : World} (a : Option Addr) (l : List Know) (n k : Nat) (hn : n = l.length) (h480 : n ≤ 480) (hd : (refsOf l).Nodup) (hK : KnowAt w a l) :
    Calls Try.prog 16 #[.slice a n k] w fun e w' => ∃ v, e = .returned (.tuple #[v, .int .i64 0]) ∧ PassesOf w' w.heap.size v l ∧ Upd [] w w' := by
  obtain ⟨i3, hi3, hz3a, hz3b, hz3c⟩ := info_parts info3
  have HI3 := hid hi3
  have HA3 := hid hz3a
  have HB3 := hid hz3b
  have HC3 := hid hz3c
  obtain ⟨i22, hi22, hz22a, hz22b, hz22c⟩ := info_parts info22
  have HI22 := hid hi22
  have HA22 := hid hz22a
  have HB22 := hid hz22b
  have HC22 := hid hz22c
  clear hi3 hz3a hz3b hz3c hi22 hz22a hz22b hz22c
  have IX := hid (index_any a l n k hn h480 hd hK)
  obtain ⟨B, hB⟩ : ∃ B, B = w.heap.size := ⟨_, rfl⟩
  have HBS := hid hB
  rw [← hB]
  have HN := hid hn
  have HD := hid hd
  have HK := hid hK
  clear hn hd hK hB
  have hmm := @run_makeMap Try.prog
  go_enter Try.func16, Try.ntmps16
  go_wp2_with fail
  refine IX.out.mono ?_
  rintro e w1 ⟨b1, rfl, hm1, hb1, hu1⟩
  have M1 := hid hm1
  have B1 := hid hb1
  have U1 := hid hu1
  clear hm1 hb1 hu1 IX
  go_wp2_with fail
  obtain ⟨b2, hb2⟩ : ∃ b2, b2 = w1.heap.size := ⟨_, rfl⟩
  rw [← hb2]
  have HB2 := hid hb2
  clear hb2
  have U2 := hid (U1.out.alloc (.map #[] 0))
  have BB2 := hid (show B ≤ b2 by have := U1.out.size; have := HBS.out; have := HB2.out; omega)
  have BL1 := hid M1.out.lt
  have BB1 := hid (show B ≤ b1 by have := B1.out; have := HBS.out; omega)
  go_loopg [7, 29] n (fun d v7 v29 wr => ∃ (i : Nat), v29 = .int .i64 (i : Int) ∧ i ≤ n ∧ Hid (i + d = n) ∧ Hid (wr.ownsRow B 3 1 v7 (refsOf ((l.take i).filter Know.up)).length (ints (refsOf ((l.take i).filter Know.up)))) ∧ Hid (MapB wr b2 (refsOf ((l.take i).filter Know.up))) ∧ Hid (MapI wr b1 l) ∧ Hid (Upd [] w wr))
  case atStart =>
    refine ⟨0, rfl, by omega, hid (by omega), hid (World.ownsRow_nil _ _ _ _), hid ?_, hid (M1.out.upd ((Upd.refl [] w1).alloc _) (by simp)), U2⟩
    rw [HB2.out]
    exact MapB.nil w1
  case round =>
    obtain ⟨i, rfl, hi, Hd, HO, HM, HI, HU⟩ := hrel
    by_cases hin : i < n
    · have hil : i < l.length := by rw [← HN.out]; exact hin
      obtain ⟨g, o, ra, rk, rfl, c0, c1, c2, c3, -, -⟩ := HK.out.upd HU.out i hil
      obtain ⟨q, hq⟩ : ∃ q, q = refsOf ((l.take i).filter Know.up) := ⟨_, rfl⟩
      rw [← hq] at HO HM
      have HQ := hid hq
      have hql : q.length ≤ 480 := by rw [hq]; unfold refsOf; rw [List.length_map]; have := List.length_filter_le Know.up (l.take i); rw [List.length_take] at this; omega
      obtain ⟨x, hx⟩ : ∃ x, x = (l.getD i noKnow).ref := ⟨_, rfl⟩
      obtain ⟨aw, haw⟩ : ∃ x, x = (l.getD i noKnow).awake := ⟨_, rfl⟩
      obtain ⟨ro, hro⟩ : ∃ x, x = (l.getD i noKnow).root := ⟨_, rfl⟩
      obtain ⟨rl, hrl⟩ : ∃ x, x = (l.getD i noKnow).refs.length := ⟨_, rfl⟩
      have hup : (l.getD i noKnow).up = (ro || aw) := by unfold Know.up; rw [← haw, ← hro]
      rw [← hx] at c0
      rw [← haw] at c1
      rw [← hro] at c2
      rw [← hrl] at c3
      have hi' : (i : Int) < (n : Int) := by omega
      have hst : refsOf ((l.take (i + 1)).filter Know.up) = if (ro || aw) = true then q ++ [x] else q := by
        rw [take_snoc l i hil, List.filter_append]
        unfold refsOf at hq ⊢
        rw [List.map_append, ← hq]
        by_cases c : (ro || aw) = true
        · rw [if_pos c, List.filter_cons_of_pos (by rw [hup]; exact c), hx]; rfl
        · rw [if_neg c, List.filter_cons_of_neg (by rw [hup]; exact c)]; simp
      have HST := hid hst
      clear hx haw hro hrl hup hst hq
      obtain ⟨a7, k7, e7, -⟩ := own_view HO.out
      subst e7
      obtain ⟨m, hm, hf⟩ := HM.out
      obtain ⟨wb, hwb⟩ : ∃ wb, wb = wr.alloc (.cells #[.int .i64 x, .bool aw, .bool ro, .slice ra rl rk] 31) := ⟨_, rfl⟩
      have UB := hid (show Upd [] wr wb by rw [hwb]; exact (Upd.refl [] wr).alloc _)
      have OB := hid (own_new HO.out UB.out)
      have HF := hid hf
      have MB := hid (hm.upd UB.out (by simp))
      have IB := hid (HI.out.upd UB.out (by simp))
      have SB := hid (show B ≤ wb.heap.size by have := HU.out.size; have := UB.out.size; have := HBS.out; omega)
      clear hm hf
      cases ro with
      | true =>
        have HWB := hid hwb
        have hx0 := hid (K.blk_new wr (.cells #[.int .i64 x, .bool aw, .bool true, .slice ra rl rk] 31))
        go_upto_region 10 with (fail)
        rw [← hwb]
        clear hwb
        have X0 : wb.cell? ⟨wr.heap.size, 0, none⟩ = some (.int .i64 x) := by rw [HWB.out]; exact K.blk_cell hx0.out 0
        obtain ⟨X, hX⟩ : ∃ X, X = wr.heap.size := ⟨_, rfl⟩
        rw [← hX] at X0 ⊢
        have XB := hid (show wb.heap[X]? = some (.cells #[.int .i64 x, .bool aw, .bool true, .slice ra rl rk] 31 (0, 0)) by rw [HWB.out, hX]; exact hx0.out)
        clear hX
        clear c0 c1 c2 c3
        go_upto_region 11 with (first | (at_builtin; refine wpList_app (W := wb) rfl (.tmp 39) (.tmp 42) 22 rfl B 3 i3 _ 1 8 Try.underlying22 HI3.out HA3.out HB3.out HC3.out rfl (by decide) (.slice a7 q.length k7) q.length (ints q) rfl OB.out [.int .i64 x] 3 (by first | rfl | (rw [World.size_alloc]; rfl)) rfl (by intro u hu; simp at hu; subst hu; rfl) (by omega) (by omega) (by have := SB.out; omega) ?_; intro v3 w3 ho3 hu3 hl3; have HO3 := hid ho3; have HU3 := hid hu3; have MB3 := hid (MB.out.upd hu3 (fun hs => own_map_ne OB.out MB.out b2 (by simpa using hs) rfl)); have IB3 := hid (IB.out.own OB.out hu3); have XB3 := hid (hu3.blk XB.out (fun hs => own_cells_ne OB.out XB.out (by decide) X (by simpa using hs) rfl)); have X3 := (K.blk_cell XB3.out 0).trans rfl; clear ho3 hu3 hl3))
        go_wp2_with (first | (at_mapUpdate; refine wpList_put rfl _ _ _ 58 rfl 3 4 Try.underlying58 Try.underlying3 b2 m rfl MB3.out x (.bool true) rfl rfl ?_; intro w4 hm4 hu4; have HM4 := hid hm4; have U4 := hid hu4; clear hm4 hu4))
        go_roundg (n - (i + 1))
        case measure => have := Hd.out; omega
        case rel =>
          have st : refsOf ((l.take (i + 1)).filter Know.up) = q ++ [x] := HST.out.trans (if_pos rfl)
          have hb12 : b1 ∉ [b2] := fun hs => by
            simp at hs
            have := BL1.out
            have := HB2.out
            omega
          refine ⟨i + 1, by go_num, by omega, hid (by omega), hid ?_, hid ?_, hid ?_, hid ?_⟩
          · rw [st, List.length_append, ints_snoc]
            exact own_map HO3.out MB3.out U4.out
          · rw [st]
            exact MapB.put HF.out HM4.out
          · exact IB3.out.upd U4.out hb12
          · refine ((HU.out.trans UB.out (fun t ht => by cases ht)).trans HU3.out (fun t ht => .inr (by rw [← HBS.out]; exact own_ge OB.out t (by simpa using ht)))).trans U4.out (fun t ht => .inr (by simp at ht; subst ht; have := BB2.out; have := HBS.out; omega))
      | false =>
        cases aw with
        | true =>
          have HWB := hid hwb
          have hx0 := hid (K.blk_new wr (.cells #[.int .i64 x, .bool true, .bool false, .slice ra rl rk] 31))
          go_upto_region 10 with (fail)
          rw [← hwb]
          clear hwb
          have X0 : wb.cell? ⟨wr.heap.size, 0, none⟩ = some (.int .i64 x) := by rw [HWB.out]; exact K.blk_cell hx0.out 0
          obtain ⟨X, hX⟩ : ∃ X, X = wr.heap.size := ⟨_, rfl⟩
          rw [← hX] at X0 ⊢
          have XB := hid (show wb.heap[X]? = some (.cells #[.int .i64 x, .bool true, .bool false, .slice ra rl rk] 31 (0, 0)) by rw [HWB.out, hX]; exact hx0.out)
          clear hX
          clear c0 c1 c2 c3
          go_upto_region 11 with (first | (at_builtin; refine wpList_app (W := wb) rfl (.tmp 39) (.tmp 42) 22 rfl B 3 i3 _ 1 8 Try.underlying22 HI3.out HA3.out HB3.out HC3.out rfl (by decide) (.slice a7 q.length k7) q.length (ints q) rfl OB.out [.int .i64 x] 3 (by first | rfl | (rw [World.size_alloc]; rfl)) rfl (by intro u hu; simp at hu; subst hu; rfl) (by omega) (by omega) (by have := SB.out; omega) ?_; intro v3 w3 ho3 hu3 hl3; have HO3 := hid ho3; have HU3 := hid hu3; have MB3 := hid (MB.out.upd hu3 (fun hs => own_map_ne OB.out MB.out b2 (by simpa using hs) rfl)); have IB3 := hid (IB.out.own OB.out hu3); have XB3 := hid (hu3.blk XB.out (fun hs => own_cells_ne OB.out XB.out (by decide) X (by simpa using hs) rfl)); have X3 := (K.blk_cell XB3.out 0).trans rfl; clear ho3 hu3 hl3))
          go_wp2_with (first | (at_mapUpdate; refine wpList_put rfl _ _ _ 58 rfl 3 4 Try.underlying58 Try.underlying3 b2 m rfl MB3.out x (.bool true) rfl rfl ?_; intro w4 hm4 hu4; have HM4 := hid hm4; have U4 := hid hu4; clear hm4 hu4))
          go_roundg (n - (i + 1))
          case measure => have := Hd.out; omega
          case rel =>
            have st : refsOf ((l.take (i + 1)).filter Know.up) = q ++ [x] := HST.out.trans (if_pos rfl)
            have hb12 : b1 ∉ [b2] := fun hs => by
              simp at hs
              have := BL1.out
              have := HB2.out
              omega
            refine ⟨i + 1, by go_num, by omega, hid (by omega), hid ?_, hid ?_, hid ?_, hid ?_⟩
            · rw [st, List.length_append, ints_snoc]
              exact own_map HO3.out MB3.out U4.out
            · rw [st]
              exact MapB.put HF.out HM4.out
            · exact IB3.out.upd U4.out hb12
            · refine ((HU.out.trans UB.out (fun t ht => by cases ht)).trans HU3.out (fun t ht => .inr (by rw [← HBS.out]; exact own_ge OB.out t (by simpa using ht)))).trans U4.out (fun t ht => .inr (by simp at ht; subst ht; have := BB2.out; have := HBS.out; omega))
        | false =>
          have HWB := hid hwb
          go_upto_region 12 with (fail)
          rw [← hwb]
          clear hwb
          go_wp2_with fail
          go_roundg (n - (i + 1))
          case measure => have := Hd.out; omega
          case rel =>
            have st : refsOf ((l.take (i + 1)).filter Know.up) = q := HST.out.trans (if_neg (by simp))
            refine ⟨i + 1, by go_num, by omega, hid (by omega), hid ?_, hid ?_, hid ?_, hid ?_⟩
            · rw [st]; exact OB.out
            · rw [st]; exact ⟨m, MB.out, HF.out⟩
            · exact IB.out
            · exact HU.out.trans UB.out (fun t ht => by cases ht)
    · have ei : i = n := by omega
      have hni : ¬ (i : Int) < (n : Int) := by omega
      have etk : l.take i = l := by rw [ei, HN.out, List.take_length]
      rw [etk] at HO HM
      obtain ⟨p0, hp0⟩ : ∃ p0, p0 = refsOf (l.filter Know.up) := ⟨_, rfl⟩
      have PI0 := hid (PI.start HD.out)
      rw [← hp0] at HO HM PI0
      clear hp0 etk ei hi hin Hd
      go_wp2_with fail
      go_loopg [7, 10] (n + 1) (fun d v7 v10 wr => ∃ (D : List (List Int)) (p : List Int) (us : List Value) (M : Nat), Hid (d = n + 1 - D.flatten.length) ∧ Hid (B ≤ M ∧ M ≤ wr.heap.size) ∧ Hid (wr.ownsRow M 3 1 v7 p.length (ints p)) ∧ Hid (wr.ownsRow B 22 1 v10 D.length us) ∧ Hid (RowsAt wr us D M) ∧ Hid (PI l D p) ∧ Hid (MapB wr b2 (D.flatten ++ p)) ∧ Hid (MapI wr b1 l) ∧ Hid (Upd [] w wr))
      case atStart =>
        exact ⟨[], p0, [], B, hid (by simp), hid ⟨Nat.le_refl _, by have := HU.out.size; have := HBS.out; omega⟩, HO, hid (World.ownsRow_nil _ _ _ _), hid ⟨rfl, fun i hi => by simp at hi⟩, PI0, hid (by simpa using HM.out), HI, HU⟩
      case round =>
        clear HO HM HI HU PI0
        obtain ⟨D, p, us, M, Hd, HMM, HO, HQ, HR, HP, HM, HI, HU⟩ := hrel
        obtain ⟨a7, k7, e7, -⟩ := own_view HO.out
        obtain ⟨a10, k10, e10, -⟩ := own_view HQ.out
        subst e7 e10
        by_cases hp : p = []
        · subst hp
          have e0 : ¬ (0 : Int) < (([] : List Int).length : Int) := by simp
          go_wp2_with fail
          go_ret2
          exact ⟨_, rfl, ⟨D, us, M, HQ.out, HR.out, HP.out.done⟩, HU.out⟩
        · have hpl : 0 < p.length := List.length_pos_iff.2 hp
          have hlen := HP.out.len
          rw [← HN.out] at hlen
          have SO := hid (sort_own HO.out (by omega))
          obtain ⟨np, hnp⟩ : ∃ np, np = p.length := ⟨_, rfl⟩
          rw [← hnp] at hpl hlen HO SO
          have HNP := hid hnp
          have HPN := hid hp
          have hpl' : (0 : Int) < (np : Int) := by omega
          rw [← hnp]
          clear hp hnp
          go_wp2_with fail
          refine SO.out.mono ?_
          rintro e w5 ⟨rfl, ho5, hu5⟩
          obtain ⟨p', hp'⟩ : ∃ p', p' = sortL p := ⟨_, rfl⟩
          rw [← hp'] at ho5
          have PP := hid (show p'.Perm p by rw [hp']; exact sortL_perm p)
          have hl5 : p'.length = np := by rw [hp', sortL_length, HNP.out]
          rw [← hl5] at ho5
          have O5 := hid ho5
          have P5 := hid (HP.out.perm PP.out)
          have Q5 := hid (own_upd HQ.out hu5 (fun k hk hs => own_own_ne HQ.out HO.out (by decide) k hk k (by simpa using hs) rfl))
          have R5 := hid (HR.out.own HO.out hu5)
          have MB5 := hid ((HM.out.own HO.out hu5).ext (S' := D.flatten ++ p') (fun x => by simp only [List.mem_append]; rw [PP.out.mem_iff]))
          have MI5 := hid (HI.out.own HO.out hu5)
          have U5 := hid (HU.out.trans hu5 (fun t ht => .inr (by have := own_ge HO.out t (by simpa using ht); have := HMM.out; have := HBS.out; omega)))
          have M5 := hid (show M ≤ w5.heap.size by have := hu5.size; have := HMM.out; omega)
          have HL5 := hid hl5
          clear ho5 hu5 hp' hl5 HO HQ HR HP HM HI HU SO
          obtain ⟨r7, kr7, cur7, e7, rb7, row7, rge7⟩ := own_row O5.out (by intro q; have := HL5.out; rw [q] at this; simp at this; omega)
          rw [HL5.out] at e7
          simp only [Value.slice.injEq] at e7
          obtain ⟨rfl, -, rfl⟩ := e7
          have RB7 := hid rb7
          have ROW7 := hid row7
          clear rb7 row7
          have DL := hid (show D.length ≤ n by have := flat_len P5.out.ne; omega)
          have hdl := DL.out
          have hBM := HMM.out.1
          go_upto_region 17 with (first | (at_builtin; refine wpList_app (W := w5) rfl (.tmp 53) (.tmp 55) 36 rfl B 22 i22 _ 1 24 Try.underlying36 HI22.out HA22.out HB22.out HC22.out rfl (by decide) (.slice a10 D.length k10) D.length us rfl Q5.out [.slice (some ⟨r7, 0, none⟩) np k7] 22 (by first | rfl | (rw [World.size_alloc]; rfl)) rfl (by intro u hu; simp at hu; subst hu; rfl) (by omega) (by omega) (by have := M5.out; omega) ?_; intro v6 w6 ho6 hu6 hl6; have O6 := hid ho6; have U6 := hid hu6; clear ho6 hu6 hl6))
          obtain ⟨D', hD'⟩ : ∃ D', D' = D ++ [p'] := ⟨_, rfl⟩
          have ED := hid hD'
          have MM6 := hid (show M ≤ w6.heap.size by have := M5.out; have := U6.out.size; omega)
          have RB6 := hid (U6.out.blk RB7.out (fun hs => own_cells_ne Q5.out RB7.out (by decide) r7 (by simpa using hs) rfl))
          have RW6 := hid (introw_keep ROW7.out U6.out (fun hs => own_cells_ne Q5.out RB7.out (by decide) r7 (by simpa using hs) rfl))
          have RL6 := hid (K.blk_lt RB6.out)
          obtain ⟨us', hus'⟩ : ∃ us', us' = us ++ [.slice (some ⟨r7, 0, none⟩) np k7] := ⟨_, rfl⟩
          have R6 := hid (show RowsAt w6 us' D' w6.heap.size by
            rw [hus', hD', ← HL5.out]
            exact (R5.out.out Q5.out U6.out MM6.out).snoc RB6.out RW6.out RL6.out)
          have Q6 := hid (show w6.ownsRow B 22 1 v6 D'.length us' by
            rw [hus', hD', List.length_append]; exact O6.out)
          have MB6 := hid (show MapB w6 b2 (D'.flatten ++ []) by
            have h := MB5.out.own Q5.out U6.out
            rw [hD']; simpa using h)
          have MI6 := hid (MI5.out.own Q5.out U6.out)
          have UU6 := hid (U5.out.trans U6.out (fun t ht => .inr (by rw [← HBS.out]; exact own_ge Q5.out t (by simpa using ht))))
          have QI0 := hid (QI.start P5.out)
          obtain ⟨M6, hM6⟩ : ∃ M6, M6 = w6.heap.size := ⟨_, rfl⟩
          rw [← hM6] at R6
          have BM6 := hid (show B ≤ M6 ∧ M6 ≤ w6.heap.size by have := MM6.out; omega)
          have R7M := hid (show r7 < M6 by have := RL6.out; omega)
          clear hM6 hus' hD' hdl hBM O6 MB5 MI5 Q5 R5 RB7 ROW7
          go_wp2_with fail
          go_loopg [11, 59] np (fun d v11 v59 wr => ∃ (j : Nat) (q now : List Int), v59 = .int .i64 (j : Int) ∧ j ≤ np ∧ Hid (j + d = np) ∧ Hid (QI l D p' q now) ∧ Hid (∀ k ∈ l, k.ref ∈ p'.take j → ∀ x ∈ k.refs, x ∈ now) ∧ Hid (M6 ≤ wr.heap.size) ∧ Hid (wr.ownsRow M6 3 1 v11 q.length (ints q)) ∧ Hid (wr.ownsRow B 22 1 v6 D'.length us') ∧ Hid (RowsAt wr us' D' M6) ∧ Hid (MapB wr b2 (D'.flatten ++ q)) ∧ Hid (MapI wr b1 l) ∧ Hid (IntRow wr (some ⟨r7, 0, none⟩) p' ∧ wr.heap[r7]? = some (.cells cur7 3 (0, 0))) ∧ Hid (Upd [] w wr))
          case atStart =>
            exact ⟨0, [], [], rfl, by omega, hid (by omega), QI0, hid (fun k hk hr => by simp at hr), hid BM6.out.2, hid (World.ownsRow_nil _ _ _ _), Q6, R6, MB6, MI6, hid ⟨RW6.out, RB6.out⟩, UU6⟩
          case round =>
            clear QI0 Q6 R6 MB6 MI6 RW6 UU6 RB6 RL6
            obtain ⟨j, q, now, rfl, hj, Hj, HQI, HALL, HMM2, HO, HQ, HR, HM, HI, HRW, HU⟩ := hrel
            obtain ⟨a11, k11, e11, -⟩ := own_view HO.out
            subst e11
            by_cases hjn : j < np
            · have hj' : (j : Int) < (np : Int) := by omega
              obtain ⟨xa, e, hc⟩ := HRW.out.1 j (by rw [HL5.out]; exact hjn)
              cases e
              rw [addz] at hc
              obtain ⟨x, hx⟩ : ∃ x, x = p'.getD j 0 := ⟨_, rfl⟩
              rw [← hx] at hc
              have hxp : x ∈ p' := by
                rw [hx, List.getD_eq_getElem?_getD, List.getElem?_eq_getElem (by rw [HL5.out]; exact hjn)]
                exact List.getElem_mem _
              obtain ⟨i0, hi0, hri⟩ := mem_refsOf (P5.out.mem x (List.mem_append_right _ hxp))
              have LK := HI.out.look hi0
              rw [hri] at LK
              obtain ⟨g, o, ra, rk, rfl, -, -, -, c3, hrow, hr100⟩ := HK.out i0 hi0
              replace c3 := HU.out.cell c3 (by simp)
              obtain ⟨rf, hrf⟩ : ∃ rf, rf = (l.getD i0 noKnow).refs := ⟨_, rfl⟩
              rw [← hrf] at c3 hrow hr100
              obtain ⟨nr, hnr⟩ : ∃ nr, nr = rf.length := ⟨_, rfl⟩
              rw [← hnr] at c3 hr100
              have hi0' : (i0 : Int) < (n : Int) := by rw [HN.out]; omega
              have HXP := hid hxp
              have HRI := hid hri
              have HRF := hid hrf
              have HNR := hid hnr
              have HI0 := hid hi0
              have HX := hid hx
              have HROW := hid hrow
              clear hxp hri hrf hnr hi0 hx hrow
              have HR100 := hid hr100
              have HJ := hid hjn
              clear hr100 hjn
              go_wp2_with fail
              clear c3 hc
              go_loopg [11, 71] nr (fun d v11 v71 wr => ∃ (t : Nat) (q : List Int), v71 = .int .i64 (t : Int) ∧ t ≤ nr ∧ Hid (t + d = nr) ∧ Hid (QI l D p' q (now ++ rf.take t)) ∧ Hid (M6 ≤ wr.heap.size) ∧ Hid (wr.ownsRow M6 3 1 v11 q.length (ints q)) ∧ Hid (wr.ownsRow B 22 1 v6 D'.length us') ∧ Hid (RowsAt wr us' D' M6) ∧ Hid (MapB wr b2 (D'.flatten ++ q)) ∧ Hid (MapI wr b1 l) ∧ Hid (IntRow wr (some ⟨r7, 0, none⟩) p' ∧ wr.heap[r7]? = some (.cells cur7 3 (0, 0))) ∧ Hid (Upd [] w wr))
              case atStart => exact ⟨0, q, rfl, by omega, hid (by omega), hid (by simpa using HQI.out), HMM2, HO, HQ, HR, HM, HI, HRW, HU⟩
              case round =>
                clear HQI HMM2 HO HQ HR HM HI HRW HU
                obtain ⟨t, q, rfl, ht, Ht, HQI, HMM2, HO, HQ, HR, HM, HI, HRW, HU⟩ := hrel
                obtain ⟨a11, k11, e11, -⟩ := own_view HO.out
                subst e11
                by_cases htn : t < nr
                · have ht' : (t : Int) < (nr : Int) := by omega
                  have h100 := HR100.out
                  have htr : t < rf.length := by rw [← HNR.out]; exact htn
                  obtain ⟨xa, rfl, hc⟩ := HROW.out.upd HU.out t htr
                  obtain ⟨y, hy⟩ : ∃ y, y = rf.getD t 0 := ⟨_, rfl⟩
                  rw [← hy] at hc
                  have hyr : y ∈ rf := by
                    rw [hy, List.getD_eq_getElem?_getD, List.getElem?_eq_getElem htr]
                    exact List.getElem_mem _
                  have etk : now ++ rf.take (t + 1) = (now ++ rf.take t) ++ [y] := by
                    rw [List.take_add_one, hy, List.getD_eq_getElem?_getD, List.getElem?_eq_getElem htr, List.append_assoc]; rfl
                  have ef : D'.flatten = D.flatten ++ p' := by rw [ED.out]; simp
                  obtain ⟨z, LK2⟩ := HI.out.has y
                  have LK3 := HM.out.look y
                  have HTN := hid htn
                  have EF := hid ef
                  have ETK := hid etk
                  have HYR := hid hyr
                  clear htn ef etk hyr hy htr
                  by_cases hv : y ∈ refsOf l
                  · rw [decide_eq_true hv] at LK2
                    have HV := hid hv
                    clear hv
                    by_cases hs : y ∈ D'.flatten ++ q
                    · rw [decide_eq_true hs] at LK3
                      have HS := hid hs
                      clear hs
                      go_wp2_with fail
                      go_roundg (nr - (t + 1))
                      case measure => have := Ht.out; have := HTN.out; omega
                      case rel => exact ⟨t + 1, q, by go_num, HTN.out, hid (Nat.add_sub_of_le HTN.out), hid (by rw [ETK.out]; exact HQI.out.skip (fun _ => by rw [← EF.out]; exact HS.out)), HMM2, HO, HQ, HR, HM, HI, HRW, HU⟩
                    · rw [decide_eq_false hs] at LK3
                      have HS := hid hs
                      obtain ⟨m, hm, hf⟩ := HM.out
                      have HMM := hid hm
                      have HF := hid hf
                      have hql : q.length ≤ 480 := by
                        have := nodup_le HQI.out.nodup (b := refsOf l) (fun a ha => by
                          rcases List.mem_append.1 ha with c | c
                          · exact P5.out.mem a c
                          · exact HQI.out.mem a c)
                        rw [List.length_append] at this
                        unfold refsOf at this
                        rw [List.length_map, ← HN.out] at this
                        omega
                      clear hs hm hf
                      go_wp2_with (first
                        | (at_mapUpdate; refine wpList_put rfl _ _ _ 58 rfl 3 4 Try.underlying58 Try.underlying3 b2 m rfl HMM.out y (.bool true) rfl rfl ?_; intro w7 hm7 hu7; have HM7 := hid hm7; have U7 := hid hu7; have OW7 := hid (own_map HO.out HMM.out hu7); clear hm7 hu7)
                        | (at_builtin; refine wpList_app (W := w7) rfl (.tmp 90) (.tmp 92) 22 rfl M6 3 i3 _ 1 8 Try.underlying22 HI3.out HA3.out HB3.out HC3.out rfl (by decide) (.slice a11 q.length k11) q.length (ints q) rfl OW7.out [.int .i64 y] 3 (by first | rfl | (rw [World.size_alloc]; rfl)) rfl (by intro u hu; simp at hu; subst hu; rfl) (by omega) (by omega) (by have := HMM2.out; have := U7.out.size; omega) ?_; intro v8 w8 ho8 hu8 hl8; have HO8 := hid ho8; have HU8 := hid hu8; clear ho8 hu8 hl8))
                      go_roundg (nr - (t + 1))
                      case measure => have := Ht.out; have := HTN.out; omega
                      case rel =>
                        have hb12 : b1 ∉ [b2] := fun hs => by
                          simp at hs
                          have := BL1.out
                          have := HB2.out
                          omega
                        have hr7b : r7 ∉ [b2] := fun hs => by
                          simp at hs
                          exact HMM.out.ne_cells HRW.out.2 hs.symm
                        have hq7 : r7 ∉ (Value.slice a11 q.length k11).ownBlock.toList := fun hs => by
                          have := own_ge HO.out r7 (by simpa using hs)
                          have := R7M.out
                          omega
                        have hQ7 := own_map HQ.out HMM.out U7.out
                        have hR7 := HR.out.map HMM.out U7.out
                        have hI7 := HI.out.upd U7.out hb12
                        have hB7 : MapB w7 b2 ((D'.flatten ++ q) ++ [y]) := MapB.put HF.out HM7.out
                        refine ⟨t + 1, q ++ [y], by go_num, HTN.out, hid (Nat.add_sub_of_le HTN.out), hid ?_, hid ?_, hid ?_, hid ?_, hid ?_, hid ?_, hid ?_, hid ⟨?_, ?_⟩, hid ?_⟩
                        · rw [ETK.out]
                          exact HQI.out.take HV.out (fun h => HS.out (by rw [EF.out]; exact h)) ⟨_, getD_mem HI0.out, by rw [HRI.out]; exact HXP.out, by rw [← HRF.out]; exact HYR.out⟩
                        · have := U7.out.size
                          have := HU8.out.size
                          have := HMM2.out
                          omega
                        · rw [List.length_append, ints_snoc]; exact HO8.out
                        · exact own_upd hQ7 HU8.out (fun k hk hs => own_own_ne hQ7 OW7.out (by decide) k hk k (by simpa using hs) rfl)
                        · exact hR7.own OW7.out HU8.out
                        · exact (hB7.own OW7.out HU8.out).ext (fun a => by simp)
                        · exact hI7.own OW7.out HU8.out
                        · exact introw_keep (introw_keep HRW.out.1 U7.out hr7b) HU8.out hq7
                        · exact HU8.out.blk (U7.out.blk HRW.out.2 hr7b) hq7
                        · refine (HU.out.trans U7.out (fun a ha => .inr (by simp at ha; subst ha; rw [← HBS.out]; exact BB2.out))).trans HU8.out (fun a ha => .inr ?_)
                          have := own_ge OW7.out a (by simpa using ha)
                          have := BM6.out.1
                          have := HBS.out
                          omega
                  · rw [decide_eq_false hv] at LK2
                    have HV := hid hv
                    clear hv
                    go_wp2_with fail
                    go_roundg (nr - (t + 1))
                    case measure => have := Ht.out; have := HTN.out; omega
                    case rel => exact ⟨t + 1, q, by go_num, HTN.out, hid (Nat.add_sub_of_le HTN.out), hid (by rw [ETK.out]; exact HQI.out.skip (fun h => absurd h HV.out)), HMM2, HO, HQ, HR, HM, HI, HRW, HU⟩
                · have hnt : ¬ (t : Int) < (nr : Int) := by omega
                  have et : rf.take t = rf := by rw [show t = nr by omega, HNR.out, List.take_length]
                  rw [et] at HQI
                  go_wp2_with fail
                  go_roundg (np - (j + 1))
                  case measure => have := Hj.out; have := HJ.out; omega
                  case rel =>
                    refine ⟨j + 1, q, now ++ rf, by go_num, HJ.out, hid (Nat.add_sub_of_le HJ.out), HQI, hid (fun k1 hk1 hr1 y hy => ?_), HMM2, HO, HQ, HR, HM, HI, HRW, HU⟩
                    have etk : p'.take (j + 1) = p'.take j ++ [x] := by
                      rw [List.take_add_one, HX.out, List.getD_eq_getElem?_getD, List.getElem?_eq_getElem (by rw [HL5.out]; exact HJ.out)]; rfl
                    rw [etk] at hr1
                    rcases List.mem_append.1 hr1 with c | c
                    · exact List.mem_append_left _ (HALL.out k1 hk1 c y hy)
                    · have c : k1.ref = x := by simpa using c
                      have ek : k1 = l.getD i0 noKnow := by
                        obtain ⟨i1, hi1, e1⟩ := List.mem_iff_getElem.1 hk1
                        have g1 : l.getD i1 noKnow = k1 := by rw [List.getD_eq_getElem?_getD, List.getElem?_eq_getElem hi1]; exact e1
                        by_cases q1 : i1 = i0
                        · rw [← g1, q1]
                        · exfalso
                          have hp := HD.out
                          have n1 : (refsOf l)[i1]? = some x := by unfold refsOf; rw [List.getElem?_map, List.getElem?_eq_getElem hi1]; simp [e1, c]
                          have n2 : (refsOf l)[i0]? = some x := by
                            unfold refsOf
                            have h0 := HRI.out
                            rw [List.getD_eq_getElem?_getD, List.getElem?_eq_getElem HI0.out] at h0
                            rw [List.getElem?_map, List.getElem?_eq_getElem HI0.out]
                            simpa using h0
                          have hl1 : i1 < (refsOf l).length := by unfold refsOf; rw [List.length_map]; exact hi1
                          exact q1 ((List.getElem?_inj hl1 hp).1 (n1.trans n2.symm))
                      rw [ek, ← HRF.out] at hy
                      exact List.mem_append_right _ hy
            · have hnj : ¬ (j : Int) < (np : Int) := by omega
              have ej : j = np := by omega
              go_wp2_with fail
              go_roundg (n + 1 - D'.flatten.length)
              case measure =>
                have h1 := Hd.out
                have h2 := HL5.out
                have h3 := P5.out.len
                rw [ED.out]
                simp only [List.flatten_append, List.length_append, List.flatten_cons, List.flatten_nil, List.append_nil]
                have := HN.out
                omega
              case rel =>
                have st := P5.out.step (fun q => by have := HL5.out; rw [q] at this; simp at this; omega) HQI.out (fun k hk hr => HALL.out k hk (by rw [ej, ← HL5.out, List.take_length]; exact hr))
                rw [← ED.out] at st
                exact ⟨D', q, us', M6, hid rfl, hid ⟨BM6.out.1, HMM2.out⟩, HO, HQ, HR, hid st, HM, HI, HU⟩
end Go.Proofs.Ytgocminfohbedaa.Cy
