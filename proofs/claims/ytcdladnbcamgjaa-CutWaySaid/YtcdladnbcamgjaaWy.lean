/- The walk of cut.Way: what was sent and not taken in a cut. -/
import Derived.Test.YtcdladnbcamgjaaDf
import Derived.Test.YtcdladnbcamgjaaSo
namespace Go.Proofs.Ytcdladnbcamgjaa.Wy
open Go Go.RowKit Go.Proofs.Ytcdladnbcamgjaa.K Go.Proofs.Ytcdladnbcamgjaa.M Go.Proofs.Ytcdladnbcamgjaa.Ev Go.Proofs.Ytcdladnbcamgjaa.Ck Go.Proofs.Ytcdladnbcamgjaa.O Go.Proofs.Ytcdladnbcamgjaa.CL Go.Proofs.Ytcdladnbcamgjaa.CW Go.Proofs.Ytcdladnbcamgjaa.Th Go.Proofs.Ytcdladnbcamgjaa.Cu Go.Proofs.Ytcdladnbcamgjaa.CuT Go.Proofs.Ytcdladnbcamgjaa.Cv Go.Proofs.Ytcdladnbcamgjaa.Ha Go.Proofs.Ytcdladnbcamgjaa.Df Go.Proofs.Ytcdladnbcamgjaa.So

/-- What is under way behind the first j events, of those that count. -/
def wayOf (l : List Ev) (f : Nat → Bool) : Nat → List Int
  | 0 => []
  | j + 1 => if f j = true then (if (ev l j).kind = 2 then wayOf l f j ++ [((ev l j).msg : Int)] else if (ev l j).kind = 3 then (wayOf l f j).filter (fun x => x != ((ev l j).msg : Int)) else wayOf l f j) else wayOf l f j
theorem wayOf_le (l : List Ev) (f : Nat → Bool) : ∀ j, (wayOf l f j).length ≤ j
  | 0 => Nat.le_refl _
  | j + 1 => by
    have ih := wayOf_le l f j
    unfold wayOf
    split
    · split
      · simp; omega
      · split
        · have := List.length_filter_le (fun x => x != ((ev l j).msg : Int)) (wayOf l f j); omega
        · omega
    · omega
theorem wayOf_congr (l : List Ev) (f g : Nat → Bool) : ∀ j, (∀ k, k < j → f k = g k) → wayOf l f j = wayOf l g j
  | 0, _ => rfl
  | j + 1, h => by
    unfold wayOf
    rw [wayOf_congr l f g j (fun k hk => h k (by omega)), h j (by omega)]
theorem wayOf_stop (l : List Ev) (f : Nat → Bool) (n : Nat) : ∀ j, n ≤ j → (∀ k, n ≤ k → k < j → f k = false) → wayOf l f j = wayOf l f n
  | 0, h, _ => by have : n = 0 := by omega
                  subst this; rfl
  | j + 1, h, hf => by
    by_cases e : n = j + 1
    · subst e; rfl
    · show (if f j = true then _ else wayOf l f j) = _
      rw [hf j (by omega) (by omega), if_neg (by simp)]
      exact wayOf_stop l f n j (by omega) (fun k a b => hf k a (by omega))

theorem clone_own {B n : Nat} {v : Value} {xs : List Int} {w : World} (h : w.ownsRow B 3 1 v n (ints xs)) (hn : n ≤ 100000) :
    Calls Try.prog 39 #[v] w fun e w' => ∃ a c, e = .returned (.slice a n c) ∧ Hid (IntRow w' a xs) ∧ Upd [] w w' := by
  have hl : xs.length = n := by have := h.1; rw [ints_length] at this; omega
  rcases h.2 with ⟨rfl, hx⟩ | ⟨g, cap, cur, rfl, hb, hg, h1, h2, h3, h4⟩
  · have hx0 : xs = [] := List.eq_nil_of_length_eq_zero (by omega)
    subst hx0
    refine (Try.slices_Clone_int_nil 0 0 w).mono ?_
    rintro e w' ⟨rfl, rfl⟩
    simp at hl
    subst hl
    exact ⟨none, 0, rfl, hid (fun i hi => by simp at hi), Upd.refl _ _⟩
  · rw [← hl] at h
    obtain ⟨a, c, e, h5, h6, hr⟩ := intRow_of h
    simp only [Value.slice.injEq] at e
    obtain ⟨rfl, _, rfl⟩ := e
    subst hl
    by_cases h0 : xs.length = 0
    · rw [h0]
      refine (Try.slices_Clone_int_zero ⟨g, 0, none⟩ cap w).mono ?_
      rintro e w' ⟨v', rfl, ho, _, hb⟩
      obtain ⟨a', c', rfl, _⟩ := own_view ho
      exact ⟨a', c', rfl, hid (fun i hi => by omega), Upd.of_below hb []⟩
    · refine (Try.slices_Clone_int g 0 xs.length cap xs w (Nat.le_refl _) (by omega) (fun j hj => by rw [Nat.zero_add]; exact IntRow.arr hr hj)).mono ?_
      rintro e w' ⟨v', rfl, ho, _, hb⟩
      rw [List.take_of_length_le (Nat.le_refl _)] at ho
      obtain ⟨a', c', rfl, _, _, hr'⟩ := intRow_of ho
      exact ⟨a', c', rfl, hr', Upd.of_below hb []⟩

set_option maxHeartbeats 8000000 in
set_option maxRecDepth 100000 in
theorem way_call (a : Option Addr) (cap : Nat) (l : List Ev) (n g cc : Nat) (c : List Int) (w : World) (h : HistAt w a cap l n) (hc : CutAt w g l c) :
    Calls Try.prog 44 #[.slice a n cap, .slice (some ⟨g, 0, none⟩) 8 cc] w fun e w' => ∃ a' c' m, e = .returned (.tuple #[.slice a' m c', .int .i64 0]) ∧ Hid (IntRow w' a' (sortL (wayOf l (inC l c) n))) ∧ Hid ((sortL (wayOf l (inC l c) n)).length = m) ∧ m ≤ 60 ∧ Upd [] w w' := by
  obtain ⟨i3, hi3, hz3a, hz3b, hz3c⟩ := info_parts Hi.info3
  have HI3 := hid hi3
  have HA3 := hid hz3a
  have HB3 := hid hz3b
  have HC3 := hid hz3c
  clear hi3 hz3a hz3b hz3c
  have c1 : Calls Try.prog 61 #[.slice a n cap, .slice (some ⟨w.heap.size, 0, none⟩) 1 1] (w.alloc (.cells #[.slice (some ⟨g, 0, none⟩) 8 cc] 22)) fun e w' => e = .returned (.int .i64 0) ∧ Upd [] w w' := by
    have hlen := h.len
    subst hlen
    exact check1 a cap l g cc c w h.row h.lc h.c (by have := h.small; omega) h.valid hc.row hc.cut
  have c2 : ∀ w1, Upd [] w w1 → Calls Try.prog 64 #[.slice a n cap, .slice (some ⟨g, 0, none⟩) 8 cc] w1 fun e w' => ∃ C, e = .returned (.slice (some ⟨C, 0, none⟩) n n) ∧ w1.heap.size ≤ C ∧ Arr w' C 4 n (fun k => .bool (inC l c k)) ∧ Upd [] w1 w' := fun w1 u => by
    have hlen := h.len
    subst hlen
    exact inside_any a cap l g cc c w1 (h.row.upd u) (by have := h.small; omega) h.valid (hc.row.upd u) hc.cut.len
  have hn60 := h.small
  have C2 := hid c2
  have H := hid h
  clear c2 h hc
  obtain ⟨B, hB⟩ : ∃ B, B = w.heap.size := ⟨_, rfl⟩
  have HBS := hid hB
  clear hB
  go_enter Try.func44, Try.ntmps44
  go_wp2_with fail
  refine c1.mono ?_
  rintro e w1 ⟨rfl, hu⟩
  have U := hid hu
  clear c1 hu
  go_wp2_with fail
  refine (C2.out w1 U.out).mono ?_
  rintro e w2 ⟨D, rfl, hDw, hd, hu⟩
  replace U := hid (U.out.trans hu (by simp))
  have DD := hid hd
  clear C2 hu hd hDw
  go_wp2_with fail
  go_loopg [8, 23] n (fun d v8 v23 wr => ∃ (j : Nat), v23 = .int .i64 (j : Int) ∧ j ≤ n ∧ Hid (j + d = n) ∧ Hid (wr.ownsRow B 3 1 v8 (wayOf l (inC l c) j).length (ints (wayOf l (inC l c) j))) ∧ Hid (Arr wr D 4 n (fun k => .bool (inC l c k))) ∧ Hid (Upd [] w wr))
  case atStart => exact ⟨0, rfl, by omega, by show _ = _; omega, World.ownsRow_nil _ _ _ _, DD.out, U.out⟩
  case round =>
    clear DD U
    obtain ⟨j, rfl, hjn, Hj, Ho, Hd, Hu⟩ := hrel
    have hwl := wayOf_le l (inC l c) j
    obtain ⟨way, hway⟩ : ∃ way, way = wayOf l (inC l c) j := ⟨_, rfl⟩
    rw [← hway] at Ho hwl
    have HW := hid hway
    clear hway
    by_cases hj : j < n
    · have hjl := hid (show j < l.length by rw [← H.out.len]; exact hj)
      obtain ⟨g0, rfl, c0, c1, c2⟩ := (H.out.upd Hu.out).row j hjl.out
      obtain ⟨⟨pl, kd, ms⟩, hev⟩ : ∃ ev, ev = l.getD j noEv := ⟨_, rfl⟩
      rw [← hev] at c0 c1 c2
      simp only at c0 c1 c2
      have HE : Hid (ev l j = ⟨pl, kd, ms⟩) := hev.symm
      clear hev
      obtain ⟨t, ht⟩ : ∃ t, t = inC l c j := ⟨_, rfl⟩
      have q : ∀ o, (wr.alloc o).cell? ⟨D, j, none⟩ = some (.bool t) := fun o => by rw [ht]; exact (Hd.out.alloc o).cell hj
      have HT := hid ht
      clear ht
      have hj' : (j : Int) < (n : Int) := by omega
      cases t with
      | false =>
        go_wp2_with fail
        go_roundg (n - (j + 1))
        case measure => have := Hj.out; omega
        case rel =>
          have e : wayOf l (inC l c) (j + 1) = way := by
            rw [HW.out]; show (if inC l c j = true then _ else _) = _
            rw [← HT.out]; simp
          exact ⟨j + 1, by go_num, by omega, by show _ = _; omega, by rw [e]; exact Ho.out.alloc _, Hd.out.alloc _, Hu.out.alloc _⟩
      | true =>
        by_cases kd2 : kd = 2
        · have b2 : ((kd : Int) == 2) = true := by rw [beq_iff_eq]; omega
          have KD2 := hid kd2
          clear kd2
          go_wp2_with (first | (at_builtin; refine wpList_app (W := wr.alloc (.cells #[.int .i64 (pl : Int), .int .i64 (kd : Int), .int .i64 (ms : Int)] 31)) rfl (.tmp 37) (.tmp 40) 22 rfl B 3 i3 _ 1 8 Try.underlying22 HI3.out HA3.out HB3.out HC3.out rfl (by decide) u8 way.length (ints way) rfl (Ho.out.alloc _) [.int .i64 (ms : Int)] 3 (by rw [World.size_alloc]; rfl) rfl (by intro u hu; simp at hu; subst hu; rfl) (by omega) (by omega) (by have := Hu.out.size; have := HBS.out; simp; omega) ?_; intro v8' w6 hw6 hu6 hl6; have HW6 := hid hw6; have HU6 := hid hu6; clear hw6 hu6 hl6))
          go_roundg (n - (j + 1))
          case measure => have := Hj.out; omega
          case rel =>
            have e : wayOf l (inC l c) (j + 1) = way ++ [(ms : Int)] := by
              rw [HW.out]; show (if inC l c j = true then (if (ev l j).kind = 2 then _ else _) else _) = _
              rw [if_pos HT.out.symm, HE.out, if_pos KD2.out]
            have hd : Arr w6 D 4 n (fun k => .bool (inC l c k)) := (Hd.out.alloc _).upd HU6.out (fun hm => by
              obtain ⟨cs, hb, _⟩ := Hd.out
              exact own_cells_ne Ho.out hb (by decide) D (by simpa using hm) rfl)
            refine ⟨j + 1, by go_num, by omega, by show _ = _; omega, ?_, hd, (Hu.out.alloc _).trans HU6.out (fun t ht => .inr (by rw [← HBS.out]; exact own_ge Ho.out t (by simpa using ht)))⟩
            rw [e, List.length_append]
            have : ints (way ++ [(ms : Int)]) = ints way ++ [.int .i64 (ms : Int)] := by simp [ints]
            rw [this]; exact HW6.out
        · have b2 : ((kd : Int) == 2) = false := by rw [beq_eq_false_iff_ne]; omega
          have KD2 := hid kd2
          clear kd2
          by_cases kd3 : kd = 3
          · have b3 : ((kd : Int) == 3) = true := by rw [beq_iff_eq]; omega
            have KD3 := hid kd3
            clear kd3
            go_wp2_with fail
            refine (deleteFunc_68 wr.heap.size (ms : Int) _ _ B _ way.length way _ (asks68 _ _) (blk_new wr _) (Ho.out.alloc _) (by omega)).mono ?_
            rintro e w6 ⟨v8', rfl, ho, hob, hu⟩
            have HO6 := hid ho
            have HU6 := hid hu
            have HB6 := hid hob
            clear ho hu hob
            go_wp2_with fail
            go_roundg (n - (j + 1))
            case measure => have := Hj.out; omega
            case rel =>
              have e : wayOf l (inC l c) (j + 1) = way.filter (fun x => x != (ms : Int)) := by
                rw [HW.out]; show (if inC l c j = true then (if (ev l j).kind = 2 then _ else (if (ev l j).kind = 3 then _ else _)) else _) = _
                rw [if_pos HT.out.symm, HE.out, if_neg KD2.out, if_pos KD3.out]
              have hd : Arr w6 D 4 n (fun k => .bool (inC l c k)) := (Hd.out.alloc _).upd HU6.out (fun hm => by
                obtain ⟨cs, hb, _⟩ := Hd.out
                exact own_cells_ne Ho.out hb (by decide) D (by simpa using hm) rfl)
              exact ⟨j + 1, by go_num, by omega, by show _ = _; omega, by rw [e]; exact HO6.out, hd, (Hu.out.alloc _).trans HU6.out (fun t ht => .inr (by rw [← HBS.out]; exact own_ge Ho.out t (by simpa using ht)))⟩
          · have b3 : ((kd : Int) == 3) = false := by rw [beq_eq_false_iff_ne]; omega
            have KD3 := hid kd3
            clear kd3
            go_wp2_with fail
            go_roundg (n - (j + 1))
            case measure => have := Hj.out; omega
            case rel =>
              have e : wayOf l (inC l c) (j + 1) = way := by
                rw [HW.out]; show (if inC l c j = true then (if (ev l j).kind = 2 then _ else (if (ev l j).kind = 3 then _ else _)) else _) = _
                rw [if_pos HT.out.symm, HE.out, if_neg KD2.out, if_neg KD3.out]
              exact ⟨j + 1, by go_num, by omega, by show _ = _; omega, by rw [e]; exact Ho.out.alloc _, Hd.out.alloc _, Hu.out.alloc _⟩
    · obtain rfl : j = n := by omega
      go_wp2_with fail
      refine (sort_own Ho.out (by omega)).mono ?_
      rintro e w6 ⟨rfl, ho, hu⟩
      have HO6 := hid ho
      have HU6 := hid (Hu.out.trans hu (fun t ht => .inr (by rw [← HBS.out]; exact own_ge Ho.out t (by simpa using ht))))
      clear ho hu
      go_wp2_with fail
      refine (clone_own HO6.out (by omega)).mono ?_
      rintro e w7 ⟨a7, c7, rfl, HR, hu⟩
      have HU7 := hid (HU6.out.trans hu (by simp))
      clear hu
      go_wp2_with fail
      go_ret2
      exact ⟨a7, c7, _, rfl, by rw [← HW.out]; exact HR, by show _ = _; rw [← HW.out, sortL_length], by omega, HU7.out⟩
end Go.Proofs.Ytcdladnbcamgjaa.Wy
