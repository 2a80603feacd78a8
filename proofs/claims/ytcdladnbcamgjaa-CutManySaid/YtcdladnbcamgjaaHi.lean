/- The walk of History: what it answers is a history of four places. -/
import Derived.Test.YtcdladnbcamgjaaCk
import Derived.Test.YtcdladnbcamgjaaO
import Derived.Test.YtcdladnbcamgjaaR
import Derived.Test.YtcdladnbcamgjaaShelf
import Derived.Deep.CutBlock
import Derived.Deep.DeepCutAuto
namespace Go.Proofs.Ytcdladnbcamgjaa.Hi
open Go Go.RowKit Go.Proofs.Ytcdladnbcamgjaa.K Go.Proofs.Ytcdladnbcamgjaa.M Go.Proofs.Ytcdladnbcamgjaa.Ev Go.Proofs.Ytcdladnbcamgjaa.Ck Go.Proofs.Ytcdladnbcamgjaa.O Go.Proofs.Ytcdladnbcamgjaa.R

theorem evCells_length : ∀ l : List Ev, (evCells l).length = l.length * 3
  | [] => rfl
  | x :: l => by have := evCells_length l; simp only [evCells, List.flatMap_cons, List.length_append, List.length_cons] at this ⊢; simp only [evVals, List.length_cons, List.length_nil]; omega
theorem evCells_snoc (l : List Ev) (e : Ev) : evCells (l ++ [e]) = evCells l ++ evVals e := by simp [evCells]
theorem evCells_get : ∀ (l : List Ev) (i : Nat), i < l.length →
    (evCells l)[i * 3]? = some (.int .i64 ((l.getD i noEv).place : Int)) ∧ (evCells l)[i * 3 + 1]? = some (.int .i64 ((l.getD i noEv).kind : Int)) ∧ (evCells l)[i * 3 + 2]? = some (.int .i64 ((l.getD i noEv).msg : Int))
  | [], i, h => by simp at h
  | x :: l, 0, h => by simp [evCells, evVals]
  | x :: l, i + 1, h => by
    have := evCells_get l i (by simpa using h)
    rw [show (i + 1) * 3 = i * 3 + 1 + 1 + 1 by omega]
    simpa [evCells, evVals] using this

/-- An owned row of events reads as these. -/
theorem evRow_of {w : World} {base : Nat} {v : Value} {l : List Ev} (h : w.ownsRow base 31 3 v l.length (evCells l)) : ∃ a cap, v = .slice a l.length cap ∧ l.length ≤ cap ∧ cap ≤ 9223372036854775807 ∧ EvRow w a l := by
  obtain ⟨a, cap, rfl, h1, h2, hc⟩ := own_view h
  refine ⟨a, cap, rfl, h1, h2, fun i hi => ?_⟩
  obtain ⟨e1, e2, e3⟩ := evCells_get l i hi
  obtain ⟨g, rfl, _, c0, _⟩ := hc _ _ e1
  obtain ⟨g1, hg1, _, c1, _⟩ := hc _ _ e2
  obtain ⟨g2, hg2, _, c2, _⟩ := hc _ _ e3
  cases hg1; cases hg2
  exact ⟨g, rfl, c0, c1, c2⟩

def natVals (l : List Nat) : List Value := l.map (fun m : Nat => Value.int .i64 (m : Int))

/-- What History keeps: a history, and the messages that are under way. -/
structure Inv (l : List Ev) (way : List Nat) : Prop where
  valid : Valid l
  way1 : ∀ m ∈ way, m ∈ sends l
  way2 : ∀ m ∈ way, m ∉ takes l
  nodup : way.Nodup
  short : way.length ≤ l.length
  few : ∀ m ∈ sends l, m < l.length
  four : ∀ x ∈ l, x.place < 4 ∧ (x.kind = 1 → x.msg = 0)

theorem Inv.nil : Inv [] [] := ⟨valid_nil, by simp, by simp, List.nodup_nil, by simp, by simp [sends], by simp⟩
theorem Inv.local {l : List Ev} {way : List Nat} (h : Inv l way) (p : Nat) (hp : p < 4) : Inv (l ++ [⟨p, 1, 0⟩]) way where
  valid := valid_snoc h.valid ⟨by simp, by simp, by simp; omega, by simp, by simp, by simp, by simp⟩
  way1 := by rw [sends_snoc]; simpa using h.way1
  way2 := by rw [takes_snoc]; simpa using h.way2
  nodup := h.nodup
  short := by have := h.short; simp; omega
  few := by rw [sends_snoc]; intro m hm; have := h.few m (by simpa using hm); simp; omega
  four := by intro x hx; simp at hx; rcases hx with hx | rfl; exact h.four x hx; exact ⟨hp, fun _ => rfl⟩
theorem Inv.send {l : List Ev} {way : List Nat} (h : Inv l way) (p : Nat) (hp : p < 4) (hl : l.length < 60) : Inv (l ++ [⟨p, 2, l.length⟩]) (way ++ [l.length]) where
  valid := valid_snoc h.valid ⟨by simp, by simp, by simp; omega, by simp; omega, fun _ hm => by have := h.few _ hm; simp at this, by simp, by simp⟩
  way1 := by
    rw [sends_snoc]; intro m hm; simp at hm ⊢
    rcases hm with hm | rfl
    · exact .inl (h.way1 m hm)
    · exact .inr rfl
  way2 := by
    rw [takes_snoc]; intro m hm; simp at hm ⊢
    rcases hm with hm | rfl
    · exact h.way2 m hm
    · intro ht
      have := takes_sub h.valid l.length ht
      have := h.few _ this
      omega
  nodup := by
    rw [List.nodup_append]
    refine ⟨h.nodup, by simp, fun a ha b hb => ?_⟩
    simp at hb; subst hb
    have := h.few _ (h.way1 _ ha); omega
  short := by have := h.short; simp; omega
  few := by rw [sends_snoc]; intro m hm; simp at hm; rcases hm with hm | rfl; have := h.few m hm; simp; omega; simp
  four := by intro x hx; simp at hx; rcases hx with hx | rfl; exact h.four x hx; exact ⟨hp, fun h => by simp at h⟩
theorem Inv.take {l : List Ev} {way : List Nat} (h : Inv l way) (p : Nat) (hp : p < 4) (hl : l.length < 60) (j : Nat) (hj : j < way.length) : Inv (l ++ [⟨p, 3, way.getD j 0⟩]) (way.eraseIdx j) where
  valid := by
    have hm : way.getD j 0 ∈ way := by rw [List.getD_eq_getElem?_getD, List.getElem?_eq_getElem hj]; exact List.getElem_mem hj
    exact valid_snoc h.valid ⟨by simp, by simp, by simp; omega, fun _ => by have := h.few _ (h.way1 _ hm); simp only; omega, by simp, fun _ => h.way1 _ hm, fun _ => h.way2 _ hm⟩
  way1 := by rw [sends_snoc]; intro m hm; simpa using h.way1 m (List.mem_of_mem_eraseIdx hm)
  way2 := by
    rw [takes_snoc]; intro m hm; simp
    refine ⟨h.way2 m (List.mem_of_mem_eraseIdx hm), fun e => ?_⟩
    have e1 : way[j]?.getD 0 = way[j] := by simp [hj]
    have e2 : m = way[j] := e.trans e1
    have e0 : way = way.take j ++ way[j] :: way.drop (j + 1) := by rw [← List.drop_eq_getElem_cons hj]; exact (List.take_append_drop j way).symm
    have hn := h.nodup
    rw [e0, List.nodup_append] at hn
    obtain ⟨_, n2, n3⟩ := hn
    rw [List.nodup_cons] at n2
    rw [List.eraseIdx_eq_take_drop_succ, List.mem_append] at hm
    rcases hm with hm | hm
    · exact n3 m hm way[j] List.mem_cons_self e2
    · rw [e2] at hm; exact n2.1 hm
  nodup := h.nodup.sublist (List.eraseIdx_sublist _ _)
  short := by have := h.short; have := List.length_eraseIdx_of_lt hj; simp; omega
  few := by rw [sends_snoc]; intro m hm; have := h.few m (by simpa using hm); simp; omega
  four := by intro x hx; simp at hx; rcases hx with hx | rfl; exact h.four x hx; exact ⟨hp, fun h => by simp at h⟩
theorem natVals_snoc (l : List Nat) (m : Nat) : natVals (l ++ [m]) = natVals l ++ [.int .i64 (m : Int)] := by simp [natVals]
theorem natVals_get (l : List Nat) (i : Nat) (h : i < l.length) : (natVals l)[i]? = some (.int .i64 ((l.getD i 0 : Nat) : Int)) := by
  simp [natVals, List.getD_eq_getElem?_getD, h]

theorem natVals_length (l : List Nat) : (natVals l).length = l.length := by simp [natVals]
theorem natVals_erase (l : List Nat) (q : Nat) : natVals (l.take q ++ l.drop (q + 1)) = natVals (l.eraseIdx q) := by rw [List.eraseIdx_eq_take_drop_succ]

/-- slices.Delete of one number of a row that the call owns. -/
theorem delete_any (B g4 m cap4 q : Nat) (way : List Nat) (W : World) (hw : W.ownsRow B 3 1 (.slice (some ⟨g4, 0, none⟩) m cap4) m (natVals way)) (hm : m = way.length) (hq : q < m) :
    Calls Try.prog 58 #[.slice (some ⟨g4, 0, none⟩) m cap4, .int .i64 (q : Int), .int .i64 ((q : Int) + 1)] W fun e w' =>
      e = .returned (.slice (some ⟨g4, 0, none⟩) (m - 1) cap4) ∧ w'.ownsRow B 3 1 (.slice (some ⟨g4, 0, none⟩) (m - 1) cap4) (m - 1) (natVals (way.eraseIdx q)) ∧ Upd [g4] W w' := by
  obtain ⟨a, cap, hv, h1, h2, hc⟩ := own_view hw
  simp only [Value.slice.injEq, true_and] at hv
  obtain ⟨rfl, rfl⟩ := hv
  have hzl : (way.map (fun n : Nat => (n : Int))).length = m := by simp [hm]
  have hcell : ∀ j, j < m → W.cell? ⟨g4, j, none⟩ = some (.int .i64 ((way.getD j 0 : Nat) : Int)) ∧ ∀ i, W.frozen? ⟨g4, i, none⟩ = false := fun j hj => by
    obtain ⟨g, hg, _, c, f⟩ := hc j _ (natVals_get way j (by omega))
    cases hg; exact ⟨c, f⟩
  have hK := Try.slices_Delete_int_cells g4 0 m cap4 q (q + 1) (way.map (fun n : Nat => (n : Int))) W (by omega) h1 h2 (by omega) (by omega)
    (fun j hj => by
      rw [hzl] at hj
      rw [Nat.zero_add, (hcell j hj).1]
      congr 1
      simp [List.getD_eq_getElem?_getD, show j < way.length by omega])
    (fun j hj => by rw [Nat.zero_add]; exact (hcell j hj).2 j)
  rw [show ((q : Int) + 1) = ((q + 1 : Nat) : Int) from by omega]
  refine hK.mono ?_
  rintro e w' ⟨rfl, r, rfl⟩
  rw [show q + 1 - q = 1 from by omega, show (way.map (fun n : Nat => (n : Int))).take m = way.map (fun n : Nat => (n : Int)) from List.take_of_length_le (by omega)]
  have hvs : (((way.map (fun n : Nat => (n : Int))).take q ++ (way.map (fun n : Nat => (n : Int))).drop (q + 1) ++ List.replicate 1 0).map (Value.int .i64)) = natVals (way.eraseIdx q) ++ [.int .i64 0] := by
    rw [← natVals_erase]; simp [natVals, List.map_take, List.map_drop, Function.comp_def]
  rw [hvs]
  have hlen : (natVals (way.eraseIdx q)).length = m - 1 := by rw [natVals_length, List.length_eraseIdx_of_lt (by omega)]; omega
  have hr := row_setCells (natVals (way.eraseIdx q) ++ [Value.int .i64 0]) 0 (w := W.drewN r) (xs := natVals way) hw (by rw [natVals_length]; simp [hlen]; omega)
  have ht := row_take (m := m - 1) hr (by omega)
  refine ⟨rfl, ?_, cells_upd g4 _ 0 ((Upd.refl [g4] W).drewN r) (.inl (by simp))⟩
  have e2 : ((natVals way).take 0 ++ (natVals (way.eraseIdx q) ++ [Value.int .i64 0]) ++ (natVals way).drop (0 + (natVals (way.eraseIdx q) ++ [Value.int .i64 0]).length)).take ((m - 1) * 1) = natVals (way.eraseIdx q) := by
    rw [List.take_zero, List.nil_append, List.append_assoc, Nat.mul_one, ← hlen, List.take_left']
    rfl
  rw [e2] at ht
  exact ht

theorem info31 : (Try.prog.info? 31).map (fun i => (i.zero, i.size, i.bytes)) = some (some (.agg #[.int .i64 0, .int .i64 0, .int .i64 0]), 3, 24) := by kernel_rfl
theorem info3 : (Try.prog.info? 3).map (fun i => (i.zero, i.size, i.bytes)) = some (some (.int .i64 0), 1, 8) := by kernel_rfl

theorem evVals_one (e : Ev) : ∀ u ∈ evVals e, u.oneCell' = true := by
  intro u hu; simp [evVals] at hu; rcases hu with rfl | rfl | rfl <;> rfl

set_option maxHeartbeats 8000000 in
set_option maxRecDepth 100000 in
theorem hist_any (a : Option Addr) (len cap : Nat) (xs : List Int) (w : World) (hx : IntRow w a xs) (hl : xs.length = len) (hlc : len ≤ cap) (hc : cap ≤ 9223372036854775807) :
    Calls Try.prog 20 #[.slice a len cap] w fun e w' => ∃ (l : List Ev) (a' : Option Addr) (cap' : Nat), e = .returned (.slice a' l.length cap') ∧ EvRow w' a' l ∧ l.length ≤ cap' ∧ cap' ≤ 9223372036854775807 ∧ Valid l ∧ (∀ x ∈ l, x.place < 4 ∧ (x.kind = 1 → x.msg = 0)) ∧ l.length = min len 60 ∧ Upd [] w w' := by
  obtain ⟨i31, hi31, hz31a, hz31b, hz31c⟩ := info_parts info31
  obtain ⟨i3, hi3, hz3a, hz3b, hz3c⟩ := info_parts info3
  have HX := hid hx
  have HL := hid hl
  have HI31 := hid hi31
  have HA31 := hid hz31a
  have HB31 := hid hz31b
  have HC31 := hid hz31c
  have HI3 := hid hi3
  have HA3 := hid hz3a
  have HB3 := hid hz3b
  have HC3 := hid hz3c
  clear hx hl hi31 hz31a hz31b hz31c hi3 hz3a hz3b hz3c
  obtain ⟨n, hn⟩ : ∃ n : Nat, min (len : Int) 60 = (n : Int) := ⟨min len 60, by omega⟩
  have hmin := fun ats ty => min_nat ats ty .i64 .i64 (len : Int) 60 n hn
  have hn1 : n ≤ len := by omega
  have hn2 : n ≤ 60 := by omega
  have HN : Hid (n = min len 60) := by show _ = _; omega
  clear hn
  obtain ⟨B, hB⟩ : ∃ B, B = w.heap.size := ⟨_, rfl⟩
  have HBS := hid hB
  clear hB
  go_enter Try.func20, Try.ntmps20
  go_wp2_with fail
  go_loopg [3, 4, 15] n (fun d v3 v4 v15 wr => ∃ (j : Nat) (l : List Ev) (way : List Nat), v15 = .int .i64 (j : Int) ∧ Hid (j + d = n) ∧ Hid (l.length = j) ∧ Hid (wr.ownsRow B 31 3 v3 j (evCells l)) ∧ Hid (wr.ownsRow B 3 1 v4 way.length (natVals way)) ∧ Hid (Inv l way) ∧ Hid (Upd [] w wr))
  case atStart => exact ⟨0, [], [], rfl, by show _ = _; omega, rfl, World.ownsRow_nil _ _ _ _, World.ownsRow_nil _ _ _ _, Inv.nil, Upd.refl _ _⟩
  case round =>
    obtain ⟨j, l, way, rfl, Hj, Hlj, Ho, Hw, Hi, Hu⟩ := hrel
    by_cases hj : j < n
    · obtain ⟨x, rfl, hc⟩ := HX.out.upd Hu.out j (by rw [HL.out]; omega)
      obtain ⟨k, hk⟩ : ∃ k, k = xs.getD j 0 := ⟨_, rfl⟩
      rw [← hk] at hc
      clear hk
      go_wp2_with fail
      refine (rest_some _ _ _ (by omega) (by omega)).mono ?_
      rintro e w' ⟨p, hp, -, rfl, rfl⟩
      go_wp2_with fail
      refine (rest_some _ _ _ (by omega) (by omega)).mono ?_
      rintro e w' ⟨r, hr, -, rfl, rfl⟩
      have hr8 : r = 0 ∨ r = 1 ∨ r = 2 ∨ r = 3 ∨ r = 4 ∨ r = 5 ∨ r = 6 ∨ r = 7 := by omega
      rcases hr8 with rfl | rfl | rfl | rfl | rfl | rfl | rfl | rfl
      · as_aux_lemma =>
        have hps := Hi.out.short
        have hps2 : way.length ≤ 60 := by have := Hlj.out; omega
        go_upto_region 21 with (first | (at_builtin; refine wpList_app (W := wr.alloc (.cells #[.int .i64 (p : Int), .int .i64 2, .int .i64 (j : Int)] 31)) rfl (.tmp 33) (.tmp 35) 22 rfl B 3 i3 _ 1 8 Try.underlying22 HI3.out HA3.out HB3.out HC3.out rfl (by decide) u4 way.length (natVals way) rfl (Hw.out.alloc _) [.int .i64 (j : Int)] 3 (by rw [World.size_alloc]; rfl) rfl (by intro u hu; simp at hu; subst hu; rfl) (by omega) (by omega) (by have := Hu.out.size; have := HBS.out; simp; omega) ?_; intro v4' w1 hw1 hu1 hl1; have HW1 := hid hw1; have HU1 := hid hu1; clear hw1 hu1 hl1))
        have hbk : w1.heap[wr.heap.size]? = some (.cells #[.int .i64 (p : Int), .int .i64 2, .int .i64 (j : Int)] 31 (0, 0)) :=
          HU1.out.blk (blk_new wr _) (fun hm => by have := own_lt Hw.out wr.heap.size (by simpa using hm); omega)
        have c0 : w1.cell? ⟨wr.heap.size, 0, none⟩ = some (.int .i64 (p : Int)) := (blk_cell hbk 0).trans rfl
        have c1 : w1.cell? ⟨wr.heap.size, 1, none⟩ = some (.int .i64 2) := (blk_cell hbk 1).trans rfl
        have c2 : w1.cell? ⟨wr.heap.size, 2, none⟩ = some (.int .i64 (j : Int)) := (blk_cell hbk 2).trans rfl
        have Ho1 : Hid (w1.ownsRow B 31 3 u3 j (evCells l)) := own_upd (Ho.out.alloc _) HU1.out (fun k hk hm => own_own_ne Ho.out Hw.out (by decide) k hk k (by simpa using hm) rfl)
        have HB1 : Hid (B ≤ w1.heap.size) := by have := HU1.out.size; have := Hu.out.size; have := HBS.out; simp at *; show _ ≤ _; omega
        clear hbk
        go_wp2_with (first | (at_builtin; refine wpList_app (W := w1) rfl (.tmp 61) (.tmp 63) 24 rfl B 31 i31 _ 3 24 Try.underlying24 HI31.out HA31.out HB31.out HC31.out rfl (by decide) u3 j (evCells l) rfl Ho1.out [.int .i64 (p : Int), .int .i64 2, .int .i64 (j : Int)] 31 (by first | rfl | (rw [World.size_alloc]; rfl)) rfl (evVals_one ⟨p, 2, j⟩) (by omega) (by omega) HB1.out ?_; intro v3' w2 ho2 hu2 hl2; have HO2 := hid ho2; have HU2 := hid hu2; clear ho2 hu2 hl2))
        go_roundg (n - (j + 1))
        case measure => have := Hj.out; omega
        case rel =>
          refine ⟨j + 1, l ++ [⟨p, 2, j⟩], way ++ [j], by go_num, by show _ = _; omega, by have := Hlj.out; show _ = _; simp; exact this, ?_, ?_, ?_, ?_⟩
          · rw [evCells_snoc]; exact HO2.out
          · exact own_upd (by rw [natVals_snoc, List.length_append]; exact HW1.out) HU2.out (fun k hk hm => own_own_ne HW1.out Ho1.out (by decide) k hk k (by simpa using hm) rfl)
          · exact by have := Inv.send Hi.out p (by omega) (by have := Hlj.out; omega); rw [Hlj.out] at this; exact this
          · exact ((Hu.out.alloc _).trans HU1.out (fun t ht => .inr (by rw [← HBS.out]; exact own_ge Hw.out t (by simpa using ht)))).trans HU2.out (fun t ht => .inr (by rw [← HBS.out]; exact own_ge Ho.out t (by simpa using ht)))
      · as_aux_lemma =>
        have hps := Hi.out.short
        have hps2 : way.length ≤ 60 := by have := Hlj.out; omega
        go_upto_region 21 with (first | (at_builtin; refine wpList_app (W := wr.alloc (.cells #[.int .i64 (p : Int), .int .i64 2, .int .i64 (j : Int)] 31)) rfl (.tmp 33) (.tmp 35) 22 rfl B 3 i3 _ 1 8 Try.underlying22 HI3.out HA3.out HB3.out HC3.out rfl (by decide) u4 way.length (natVals way) rfl (Hw.out.alloc _) [.int .i64 (j : Int)] 3 (by rw [World.size_alloc]; rfl) rfl (by intro u hu; simp at hu; subst hu; rfl) (by omega) (by omega) (by have := Hu.out.size; have := HBS.out; simp; omega) ?_; intro v4' w1 hw1 hu1 hl1; have HW1 := hid hw1; have HU1 := hid hu1; clear hw1 hu1 hl1))
        have hbk : w1.heap[wr.heap.size]? = some (.cells #[.int .i64 (p : Int), .int .i64 2, .int .i64 (j : Int)] 31 (0, 0)) :=
          HU1.out.blk (blk_new wr _) (fun hm => by have := own_lt Hw.out wr.heap.size (by simpa using hm); omega)
        have c0 : w1.cell? ⟨wr.heap.size, 0, none⟩ = some (.int .i64 (p : Int)) := (blk_cell hbk 0).trans rfl
        have c1 : w1.cell? ⟨wr.heap.size, 1, none⟩ = some (.int .i64 2) := (blk_cell hbk 1).trans rfl
        have c2 : w1.cell? ⟨wr.heap.size, 2, none⟩ = some (.int .i64 (j : Int)) := (blk_cell hbk 2).trans rfl
        have Ho1 : Hid (w1.ownsRow B 31 3 u3 j (evCells l)) := own_upd (Ho.out.alloc _) HU1.out (fun k hk hm => own_own_ne Ho.out Hw.out (by decide) k hk k (by simpa using hm) rfl)
        have HB1 : Hid (B ≤ w1.heap.size) := by have := HU1.out.size; have := Hu.out.size; have := HBS.out; simp at *; show _ ≤ _; omega
        clear hbk
        go_wp2_with (first | (at_builtin; refine wpList_app (W := w1) rfl (.tmp 61) (.tmp 63) 24 rfl B 31 i31 _ 3 24 Try.underlying24 HI31.out HA31.out HB31.out HC31.out rfl (by decide) u3 j (evCells l) rfl Ho1.out [.int .i64 (p : Int), .int .i64 2, .int .i64 (j : Int)] 31 (by first | rfl | (rw [World.size_alloc]; rfl)) rfl (evVals_one ⟨p, 2, j⟩) (by omega) (by omega) HB1.out ?_; intro v3' w2 ho2 hu2 hl2; have HO2 := hid ho2; have HU2 := hid hu2; clear ho2 hu2 hl2))
        go_roundg (n - (j + 1))
        case measure => have := Hj.out; omega
        case rel =>
          refine ⟨j + 1, l ++ [⟨p, 2, j⟩], way ++ [j], by go_num, by show _ = _; omega, by have := Hlj.out; show _ = _; simp; exact this, ?_, ?_, ?_, ?_⟩
          · rw [evCells_snoc]; exact HO2.out
          · exact own_upd (by rw [natVals_snoc, List.length_append]; exact HW1.out) HU2.out (fun k hk hm => own_own_ne HW1.out Ho1.out (by decide) k hk k (by simpa using hm) rfl)
          · exact by have := Inv.send Hi.out p (by omega) (by have := Hlj.out; omega); rw [Hlj.out] at this; exact this
          · exact ((Hu.out.alloc _).trans HU1.out (fun t ht => .inr (by rw [← HBS.out]; exact own_ge Hw.out t (by simpa using ht)))).trans HU2.out (fun t ht => .inr (by rw [← HBS.out]; exact own_ge Ho.out t (by simpa using ht)))
      · as_aux_lemma =>
        have hps := Hi.out.short
        have hps2 : way.length ≤ 60 := by have := Hlj.out; omega
        go_upto_region 21 with (first | (at_builtin; refine wpList_app (W := wr.alloc (.cells #[.int .i64 (p : Int), .int .i64 2, .int .i64 (j : Int)] 31)) rfl (.tmp 33) (.tmp 35) 22 rfl B 3 i3 _ 1 8 Try.underlying22 HI3.out HA3.out HB3.out HC3.out rfl (by decide) u4 way.length (natVals way) rfl (Hw.out.alloc _) [.int .i64 (j : Int)] 3 (by rw [World.size_alloc]; rfl) rfl (by intro u hu; simp at hu; subst hu; rfl) (by omega) (by omega) (by have := Hu.out.size; have := HBS.out; simp; omega) ?_; intro v4' w1 hw1 hu1 hl1; have HW1 := hid hw1; have HU1 := hid hu1; clear hw1 hu1 hl1))
        have hbk : w1.heap[wr.heap.size]? = some (.cells #[.int .i64 (p : Int), .int .i64 2, .int .i64 (j : Int)] 31 (0, 0)) :=
          HU1.out.blk (blk_new wr _) (fun hm => by have := own_lt Hw.out wr.heap.size (by simpa using hm); omega)
        have c0 : w1.cell? ⟨wr.heap.size, 0, none⟩ = some (.int .i64 (p : Int)) := (blk_cell hbk 0).trans rfl
        have c1 : w1.cell? ⟨wr.heap.size, 1, none⟩ = some (.int .i64 2) := (blk_cell hbk 1).trans rfl
        have c2 : w1.cell? ⟨wr.heap.size, 2, none⟩ = some (.int .i64 (j : Int)) := (blk_cell hbk 2).trans rfl
        have Ho1 : Hid (w1.ownsRow B 31 3 u3 j (evCells l)) := own_upd (Ho.out.alloc _) HU1.out (fun k hk hm => own_own_ne Ho.out Hw.out (by decide) k hk k (by simpa using hm) rfl)
        have HB1 : Hid (B ≤ w1.heap.size) := by have := HU1.out.size; have := Hu.out.size; have := HBS.out; simp at *; show _ ≤ _; omega
        clear hbk
        go_wp2_with (first | (at_builtin; refine wpList_app (W := w1) rfl (.tmp 61) (.tmp 63) 24 rfl B 31 i31 _ 3 24 Try.underlying24 HI31.out HA31.out HB31.out HC31.out rfl (by decide) u3 j (evCells l) rfl Ho1.out [.int .i64 (p : Int), .int .i64 2, .int .i64 (j : Int)] 31 (by first | rfl | (rw [World.size_alloc]; rfl)) rfl (evVals_one ⟨p, 2, j⟩) (by omega) (by omega) HB1.out ?_; intro v3' w2 ho2 hu2 hl2; have HO2 := hid ho2; have HU2 := hid hu2; clear ho2 hu2 hl2))
        go_roundg (n - (j + 1))
        case measure => have := Hj.out; omega
        case rel =>
          refine ⟨j + 1, l ++ [⟨p, 2, j⟩], way ++ [j], by go_num, by show _ = _; omega, by have := Hlj.out; show _ = _; simp; exact this, ?_, ?_, ?_, ?_⟩
          · rw [evCells_snoc]; exact HO2.out
          · exact own_upd (by rw [natVals_snoc, List.length_append]; exact HW1.out) HU2.out (fun k hk hm => own_own_ne HW1.out Ho1.out (by decide) k hk k (by simpa using hm) rfl)
          · exact by have := Inv.send Hi.out p (by omega) (by have := Hlj.out; omega); rw [Hlj.out] at this; exact this
          · exact ((Hu.out.alloc _).trans HU1.out (fun t ht => .inr (by rw [← HBS.out]; exact own_ge Hw.out t (by simpa using ht)))).trans HU2.out (fun t ht => .inr (by rw [← HBS.out]; exact own_ge Ho.out t (by simpa using ht)))
      · as_aux_lemma =>
        have hps := Hi.out.short
        have hps2 : way.length ≤ 60 := by have := Hlj.out; omega
        obtain ⟨a4, cap4, hv4, hn4, hc4, hcells4⟩ := own_view Hw.out
        subst hv4
        obtain ⟨m, hm⟩ : ∃ m, m = way.length := ⟨_, rfl⟩
        rw [← hm] at hn4 hps hps2 ⊢
        have HM := hid hm
        have HC4 := hid hcells4
        clear hm hcells4
        by_cases hw0 : m = 0
        · have hw1 : decide (0 < m) = false := by simp; omega
          have HW0 : Hid (wr.ownsRow B 3 1 (.slice a4 m cap4) way.length (natVals way)) := by rw [HM.out]; exact Hw.out
          clear Hw
          have Hw := HW0
          clear HW0 hw0
          have Ho1 : Hid ((wr.alloc (.cells #[.int .i64 (p : Int), .int .i64 1, .int .i64 0] 31)).ownsRow B 31 3 u3 j (evCells l)) := Ho.out.alloc _
          have HB1 : Hid (B ≤ (wr.alloc (.cells #[.int .i64 (p : Int), .int .i64 1, .int .i64 0] 31)).heap.size) := by have := Hu.out.size; have := HBS.out; simp; show _ ≤ _; omega
          go_wp2_with (first | (at_builtin; refine wpList_app (W := wr.alloc (.cells #[.int .i64 (p : Int), .int .i64 1, .int .i64 0] 31)) rfl (.tmp 61) (.tmp 63) 24 rfl B 31 i31 _ 3 24 Try.underlying24 HI31.out HA31.out HB31.out HC31.out rfl (by decide) u3 j (evCells l) rfl Ho1.out [.int .i64 (p : Int), .int .i64 1, .int .i64 0] 31 (by first | rfl | (rw [World.size_alloc]; rfl)) rfl (evVals_one ⟨p, 1, 0⟩) (by omega) (by omega) HB1.out ?_; intro v3' w2 ho2 hu2 hl2; have HO2 := hid ho2; have HU2 := hid hu2; clear ho2 hu2 hl2))
          go_roundg (n - (j + 1))
          case measure => have := Hj.out; omega
          case rel =>
            refine ⟨j + 1, l ++ [⟨p, 1, 0⟩], way, by go_num, by show _ = _; omega, by have := Hlj.out; show _ = _; simp; exact this, ?_, ?_, ?_, ?_⟩
            · rw [evCells_snoc]; exact HO2.out
            · exact own_upd (Hw.out.alloc _) HU2.out (fun k hk hm => own_own_ne Hw.out Ho.out (by decide) k hk k (by simpa using hm) rfl)
            · exact Inv.local Hi.out p (by omega)
            · exact (Hu.out.alloc _).trans HU2.out (fun t ht => .inr (by rw [← HBS.out]; exact own_ge Ho.out t (by simpa using ht)))
        · have hw1 : decide (0 < m) = true := by simp; omega
          go_wp2_with fail
          refine (rest_some _ _ _ (by omega) (by omega)).mono ?_
          rintro e w' ⟨q, hq, -, rfl, rfl⟩
          have hqm : q < m := by omega
          obtain ⟨g4, rfl, hg4, hcell4, hfr4⟩ := HC4.out q (.int .i64 ((way.getD q 0 : Nat) : Int)) (by rw [natVals_get]; rw [← HM.out]; exact hqm)
          have hcA : ∀ o, (wr.alloc o).cell? ⟨g4, q, none⟩ = some (.int .i64 ((way.getD q 0 : Nat) : Int)) := fun o => ((Upd.refl [] wr).alloc o).cell hcell4 (by simp)
          obtain ⟨ms, hms⟩ : ∃ ms, ms = way.getD q 0 := ⟨_, rfl⟩
          rw [← hms] at hcA
          have HMS := hid hms
          have HFR := hid hfr4
          clear hms hcell4 hfr4 hw0
          go_wp2_with fail
          go_region
          clear hcA
          go_wp2_with fail
          have HW0 : Hid ((wr.alloc (.cells #[.int .i64 (p : Int), .int .i64 3, .int .i64 (ms : Int)] 31)).drew.ownsRow B 3 1 (.slice (some ⟨g4, 0, none⟩) m cap4) m (natVals way)) := by
            have := (Hw.out.alloc (.cells #[.int .i64 (p : Int), .int .i64 3, .int .i64 (ms : Int)] 31)).drew
            rw [← HM.out] at this; exact this
          refine (delete_any B g4 m cap4 q way _ HW0.out HM.out hqm).mono ?_
          rintro e w1 ⟨rfl, hw1', hu1⟩
          have HW1 := hid hw1'
          have HU1 := hid hu1
          clear hw1' hu1
          have hg4s : g4 < wr.heap.size := own_lt Hw.out g4 rfl
          have hbk : w1.heap[wr.heap.size]? = some (.cells #[.int .i64 (p : Int), .int .i64 3, .int .i64 (ms : Int)] 31 (0, 0)) :=
            HU1.out.blk (w := (wr.alloc (.cells #[.int .i64 (p : Int), .int .i64 3, .int .i64 (ms : Int)] 31)).drew) (blk_new wr _) (fun hm => by simp at hm; omega)
          have c0 : w1.cell? ⟨wr.heap.size, 0, none⟩ = some (.int .i64 (p : Int)) := (blk_cell hbk 0).trans rfl
          have c1 : w1.cell? ⟨wr.heap.size, 1, none⟩ = some (.int .i64 3) := (blk_cell hbk 1).trans rfl
          have c2 : w1.cell? ⟨wr.heap.size, 2, none⟩ = some (.int .i64 (ms : Int)) := (blk_cell hbk 2).trans rfl
          have Ho1 : Hid (w1.ownsRow B 31 3 u3 j (evCells l)) := own_upd (Ho.out.alloc _).drew HU1.out (fun k hk hm => own_own_ne Ho.out Hw.out (by decide) k hk g4 rfl (by simpa using hm))
          have HB1 : Hid (B ≤ w1.heap.size) := by have := HU1.out.size; have := Hu.out.size; have := HBS.out; simp at *; show _ ≤ _; omega
          clear hbk
          go_wp2_with (first | (at_builtin; refine wpList_app (W := w1) rfl (.tmp 61) (.tmp 63) 24 rfl B 31 i31 _ 3 24 Try.underlying24 HI31.out HA31.out HB31.out HC31.out rfl (by decide) u3 j (evCells l) rfl Ho1.out [.int .i64 (p : Int), .int .i64 3, .int .i64 (ms : Int)] 31 (by first | rfl | (rw [World.size_alloc]; rfl)) rfl (evVals_one ⟨p, 3, ms⟩) (by omega) (by omega) HB1.out ?_; intro v3' w2 ho2 hu2 hl2; have HO2 := hid ho2; have HU2 := hid hu2; clear ho2 hu2 hl2))
          go_roundg (n - (j + 1))
          case measure => have := Hj.out; omega
          case rel =>
            refine ⟨j + 1, l ++ [⟨p, 3, ms⟩], way.eraseIdx q, by go_num, by show _ = _; omega, by have := Hlj.out; show _ = _; simp; exact this, ?_, ?_, ?_, ?_⟩
            · rw [evCells_snoc]; exact HO2.out
            · exact own_upd (by rw [List.length_eraseIdx_of_lt (by rw [← HM.out]; exact hqm), ← HM.out]; exact HW1.out) HU2.out (fun k hk hm => own_own_ne HW1.out Ho1.out (by decide) k hk k (by simpa using hm) rfl)
            · exact (by have := Inv.take Hi.out p (by omega) (by have := Hlj.out; omega) q (by rw [← HM.out]; exact hqm); rw [← HMS.out] at this; exact this)
            · exact ((Hu.out.alloc _).drew.trans HU1.out (fun t ht => .inr (by rw [← HBS.out]; simp at ht; omega))).trans HU2.out (fun t ht => .inr (by rw [← HBS.out]; exact own_ge Ho.out t (by simpa using ht)))

      · as_aux_lemma =>
        have hps := Hi.out.short
        have hps2 : way.length ≤ 60 := by have := Hlj.out; omega
        obtain ⟨a4, cap4, hv4, hn4, hc4, hcells4⟩ := own_view Hw.out
        subst hv4
        obtain ⟨m, hm⟩ : ∃ m, m = way.length := ⟨_, rfl⟩
        rw [← hm] at hn4 hps hps2 ⊢
        have HM := hid hm
        have HC4 := hid hcells4
        clear hm hcells4
        by_cases hw0 : m = 0
        · have hw1 : decide (0 < m) = false := by simp; omega
          have HW0 : Hid (wr.ownsRow B 3 1 (.slice a4 m cap4) way.length (natVals way)) := by rw [HM.out]; exact Hw.out
          clear Hw
          have Hw := HW0
          clear HW0 hw0
          have Ho1 : Hid ((wr.alloc (.cells #[.int .i64 (p : Int), .int .i64 1, .int .i64 0] 31)).ownsRow B 31 3 u3 j (evCells l)) := Ho.out.alloc _
          have HB1 : Hid (B ≤ (wr.alloc (.cells #[.int .i64 (p : Int), .int .i64 1, .int .i64 0] 31)).heap.size) := by have := Hu.out.size; have := HBS.out; simp; show _ ≤ _; omega
          go_wp2_with (first | (at_builtin; refine wpList_app (W := wr.alloc (.cells #[.int .i64 (p : Int), .int .i64 1, .int .i64 0] 31)) rfl (.tmp 61) (.tmp 63) 24 rfl B 31 i31 _ 3 24 Try.underlying24 HI31.out HA31.out HB31.out HC31.out rfl (by decide) u3 j (evCells l) rfl Ho1.out [.int .i64 (p : Int), .int .i64 1, .int .i64 0] 31 (by first | rfl | (rw [World.size_alloc]; rfl)) rfl (evVals_one ⟨p, 1, 0⟩) (by omega) (by omega) HB1.out ?_; intro v3' w2 ho2 hu2 hl2; have HO2 := hid ho2; have HU2 := hid hu2; clear ho2 hu2 hl2))
          go_roundg (n - (j + 1))
          case measure => have := Hj.out; omega
          case rel =>
            refine ⟨j + 1, l ++ [⟨p, 1, 0⟩], way, by go_num, by show _ = _; omega, by have := Hlj.out; show _ = _; simp; exact this, ?_, ?_, ?_, ?_⟩
            · rw [evCells_snoc]; exact HO2.out
            · exact own_upd (Hw.out.alloc _) HU2.out (fun k hk hm => own_own_ne Hw.out Ho.out (by decide) k hk k (by simpa using hm) rfl)
            · exact Inv.local Hi.out p (by omega)
            · exact (Hu.out.alloc _).trans HU2.out (fun t ht => .inr (by rw [← HBS.out]; exact own_ge Ho.out t (by simpa using ht)))
        · have hw1 : decide (0 < m) = true := by simp; omega
          go_wp2_with fail
          refine (rest_some _ _ _ (by omega) (by omega)).mono ?_
          rintro e w' ⟨q, hq, -, rfl, rfl⟩
          have hqm : q < m := by omega
          obtain ⟨g4, rfl, hg4, hcell4, hfr4⟩ := HC4.out q (.int .i64 ((way.getD q 0 : Nat) : Int)) (by rw [natVals_get]; rw [← HM.out]; exact hqm)
          have hcA : ∀ o, (wr.alloc o).cell? ⟨g4, q, none⟩ = some (.int .i64 ((way.getD q 0 : Nat) : Int)) := fun o => ((Upd.refl [] wr).alloc o).cell hcell4 (by simp)
          obtain ⟨ms, hms⟩ : ∃ ms, ms = way.getD q 0 := ⟨_, rfl⟩
          rw [← hms] at hcA
          have HMS := hid hms
          have HFR := hid hfr4
          clear hms hcell4 hfr4 hw0
          go_wp2_with fail
          go_region
          clear hcA
          go_wp2_with fail
          have HW0 : Hid ((wr.alloc (.cells #[.int .i64 (p : Int), .int .i64 3, .int .i64 (ms : Int)] 31)).drew.ownsRow B 3 1 (.slice (some ⟨g4, 0, none⟩) m cap4) m (natVals way)) := by
            have := (Hw.out.alloc (.cells #[.int .i64 (p : Int), .int .i64 3, .int .i64 (ms : Int)] 31)).drew
            rw [← HM.out] at this; exact this
          refine (delete_any B g4 m cap4 q way _ HW0.out HM.out hqm).mono ?_
          rintro e w1 ⟨rfl, hw1', hu1⟩
          have HW1 := hid hw1'
          have HU1 := hid hu1
          clear hw1' hu1
          have hg4s : g4 < wr.heap.size := own_lt Hw.out g4 rfl
          have hbk : w1.heap[wr.heap.size]? = some (.cells #[.int .i64 (p : Int), .int .i64 3, .int .i64 (ms : Int)] 31 (0, 0)) :=
            HU1.out.blk (w := (wr.alloc (.cells #[.int .i64 (p : Int), .int .i64 3, .int .i64 (ms : Int)] 31)).drew) (blk_new wr _) (fun hm => by simp at hm; omega)
          have c0 : w1.cell? ⟨wr.heap.size, 0, none⟩ = some (.int .i64 (p : Int)) := (blk_cell hbk 0).trans rfl
          have c1 : w1.cell? ⟨wr.heap.size, 1, none⟩ = some (.int .i64 3) := (blk_cell hbk 1).trans rfl
          have c2 : w1.cell? ⟨wr.heap.size, 2, none⟩ = some (.int .i64 (ms : Int)) := (blk_cell hbk 2).trans rfl
          have Ho1 : Hid (w1.ownsRow B 31 3 u3 j (evCells l)) := own_upd (Ho.out.alloc _).drew HU1.out (fun k hk hm => own_own_ne Ho.out Hw.out (by decide) k hk g4 rfl (by simpa using hm))
          have HB1 : Hid (B ≤ w1.heap.size) := by have := HU1.out.size; have := Hu.out.size; have := HBS.out; simp at *; show _ ≤ _; omega
          clear hbk
          go_wp2_with (first | (at_builtin; refine wpList_app (W := w1) rfl (.tmp 61) (.tmp 63) 24 rfl B 31 i31 _ 3 24 Try.underlying24 HI31.out HA31.out HB31.out HC31.out rfl (by decide) u3 j (evCells l) rfl Ho1.out [.int .i64 (p : Int), .int .i64 3, .int .i64 (ms : Int)] 31 (by first | rfl | (rw [World.size_alloc]; rfl)) rfl (evVals_one ⟨p, 3, ms⟩) (by omega) (by omega) HB1.out ?_; intro v3' w2 ho2 hu2 hl2; have HO2 := hid ho2; have HU2 := hid hu2; clear ho2 hu2 hl2))
          go_roundg (n - (j + 1))
          case measure => have := Hj.out; omega
          case rel =>
            refine ⟨j + 1, l ++ [⟨p, 3, ms⟩], way.eraseIdx q, by go_num, by show _ = _; omega, by have := Hlj.out; show _ = _; simp; exact this, ?_, ?_, ?_, ?_⟩
            · rw [evCells_snoc]; exact HO2.out
            · exact own_upd (by rw [List.length_eraseIdx_of_lt (by rw [← HM.out]; exact hqm), ← HM.out]; exact HW1.out) HU2.out (fun k hk hm => own_own_ne HW1.out Ho1.out (by decide) k hk k (by simpa using hm) rfl)
            · exact (by have := Inv.take Hi.out p (by omega) (by have := Hlj.out; omega) q (by rw [← HM.out]; exact hqm); rw [← HMS.out] at this; exact this)
            · exact ((Hu.out.alloc _).drew.trans HU1.out (fun t ht => .inr (by rw [← HBS.out]; simp at ht; omega))).trans HU2.out (fun t ht => .inr (by rw [← HBS.out]; exact own_ge Ho.out t (by simpa using ht)))

      · as_aux_lemma =>
        have hps := Hi.out.short
        have hps2 : way.length ≤ 60 := by have := Hlj.out; omega
        obtain ⟨a4, cap4, hv4, hn4, hc4, hcells4⟩ := own_view Hw.out
        subst hv4
        obtain ⟨m, hm⟩ : ∃ m, m = way.length := ⟨_, rfl⟩
        rw [← hm] at hn4 hps hps2 ⊢
        have HM := hid hm
        have HC4 := hid hcells4
        clear hm hcells4
        by_cases hw0 : m = 0
        · have hw1 : decide (0 < m) = false := by simp; omega
          have HW0 : Hid (wr.ownsRow B 3 1 (.slice a4 m cap4) way.length (natVals way)) := by rw [HM.out]; exact Hw.out
          clear Hw
          have Hw := HW0
          clear HW0 hw0
          have Ho1 : Hid ((wr.alloc (.cells #[.int .i64 (p : Int), .int .i64 1, .int .i64 0] 31)).ownsRow B 31 3 u3 j (evCells l)) := Ho.out.alloc _
          have HB1 : Hid (B ≤ (wr.alloc (.cells #[.int .i64 (p : Int), .int .i64 1, .int .i64 0] 31)).heap.size) := by have := Hu.out.size; have := HBS.out; simp; show _ ≤ _; omega
          go_wp2_with (first | (at_builtin; refine wpList_app (W := wr.alloc (.cells #[.int .i64 (p : Int), .int .i64 1, .int .i64 0] 31)) rfl (.tmp 61) (.tmp 63) 24 rfl B 31 i31 _ 3 24 Try.underlying24 HI31.out HA31.out HB31.out HC31.out rfl (by decide) u3 j (evCells l) rfl Ho1.out [.int .i64 (p : Int), .int .i64 1, .int .i64 0] 31 (by first | rfl | (rw [World.size_alloc]; rfl)) rfl (evVals_one ⟨p, 1, 0⟩) (by omega) (by omega) HB1.out ?_; intro v3' w2 ho2 hu2 hl2; have HO2 := hid ho2; have HU2 := hid hu2; clear ho2 hu2 hl2))
          go_roundg (n - (j + 1))
          case measure => have := Hj.out; omega
          case rel =>
            refine ⟨j + 1, l ++ [⟨p, 1, 0⟩], way, by go_num, by show _ = _; omega, by have := Hlj.out; show _ = _; simp; exact this, ?_, ?_, ?_, ?_⟩
            · rw [evCells_snoc]; exact HO2.out
            · exact own_upd (Hw.out.alloc _) HU2.out (fun k hk hm => own_own_ne Hw.out Ho.out (by decide) k hk k (by simpa using hm) rfl)
            · exact Inv.local Hi.out p (by omega)
            · exact (Hu.out.alloc _).trans HU2.out (fun t ht => .inr (by rw [← HBS.out]; exact own_ge Ho.out t (by simpa using ht)))
        · have hw1 : decide (0 < m) = true := by simp; omega
          go_wp2_with fail
          refine (rest_some _ _ _ (by omega) (by omega)).mono ?_
          rintro e w' ⟨q, hq, -, rfl, rfl⟩
          have hqm : q < m := by omega
          obtain ⟨g4, rfl, hg4, hcell4, hfr4⟩ := HC4.out q (.int .i64 ((way.getD q 0 : Nat) : Int)) (by rw [natVals_get]; rw [← HM.out]; exact hqm)
          have hcA : ∀ o, (wr.alloc o).cell? ⟨g4, q, none⟩ = some (.int .i64 ((way.getD q 0 : Nat) : Int)) := fun o => ((Upd.refl [] wr).alloc o).cell hcell4 (by simp)
          obtain ⟨ms, hms⟩ : ∃ ms, ms = way.getD q 0 := ⟨_, rfl⟩
          rw [← hms] at hcA
          have HMS := hid hms
          have HFR := hid hfr4
          clear hms hcell4 hfr4 hw0
          go_wp2_with fail
          go_region
          clear hcA
          go_wp2_with fail
          have HW0 : Hid ((wr.alloc (.cells #[.int .i64 (p : Int), .int .i64 3, .int .i64 (ms : Int)] 31)).drew.ownsRow B 3 1 (.slice (some ⟨g4, 0, none⟩) m cap4) m (natVals way)) := by
            have := (Hw.out.alloc (.cells #[.int .i64 (p : Int), .int .i64 3, .int .i64 (ms : Int)] 31)).drew
            rw [← HM.out] at this; exact this
          refine (delete_any B g4 m cap4 q way _ HW0.out HM.out hqm).mono ?_
          rintro e w1 ⟨rfl, hw1', hu1⟩
          have HW1 := hid hw1'
          have HU1 := hid hu1
          clear hw1' hu1
          have hg4s : g4 < wr.heap.size := own_lt Hw.out g4 rfl
          have hbk : w1.heap[wr.heap.size]? = some (.cells #[.int .i64 (p : Int), .int .i64 3, .int .i64 (ms : Int)] 31 (0, 0)) :=
            HU1.out.blk (w := (wr.alloc (.cells #[.int .i64 (p : Int), .int .i64 3, .int .i64 (ms : Int)] 31)).drew) (blk_new wr _) (fun hm => by simp at hm; omega)
          have c0 : w1.cell? ⟨wr.heap.size, 0, none⟩ = some (.int .i64 (p : Int)) := (blk_cell hbk 0).trans rfl
          have c1 : w1.cell? ⟨wr.heap.size, 1, none⟩ = some (.int .i64 3) := (blk_cell hbk 1).trans rfl
          have c2 : w1.cell? ⟨wr.heap.size, 2, none⟩ = some (.int .i64 (ms : Int)) := (blk_cell hbk 2).trans rfl
          have Ho1 : Hid (w1.ownsRow B 31 3 u3 j (evCells l)) := own_upd (Ho.out.alloc _).drew HU1.out (fun k hk hm => own_own_ne Ho.out Hw.out (by decide) k hk g4 rfl (by simpa using hm))
          have HB1 : Hid (B ≤ w1.heap.size) := by have := HU1.out.size; have := Hu.out.size; have := HBS.out; simp at *; show _ ≤ _; omega
          clear hbk
          go_wp2_with (first | (at_builtin; refine wpList_app (W := w1) rfl (.tmp 61) (.tmp 63) 24 rfl B 31 i31 _ 3 24 Try.underlying24 HI31.out HA31.out HB31.out HC31.out rfl (by decide) u3 j (evCells l) rfl Ho1.out [.int .i64 (p : Int), .int .i64 3, .int .i64 (ms : Int)] 31 (by first | rfl | (rw [World.size_alloc]; rfl)) rfl (evVals_one ⟨p, 3, ms⟩) (by omega) (by omega) HB1.out ?_; intro v3' w2 ho2 hu2 hl2; have HO2 := hid ho2; have HU2 := hid hu2; clear ho2 hu2 hl2))
          go_roundg (n - (j + 1))
          case measure => have := Hj.out; omega
          case rel =>
            refine ⟨j + 1, l ++ [⟨p, 3, ms⟩], way.eraseIdx q, by go_num, by show _ = _; omega, by have := Hlj.out; show _ = _; simp; exact this, ?_, ?_, ?_, ?_⟩
            · rw [evCells_snoc]; exact HO2.out
            · exact own_upd (by rw [List.length_eraseIdx_of_lt (by rw [← HM.out]; exact hqm), ← HM.out]; exact HW1.out) HU2.out (fun k hk hm => own_own_ne HW1.out Ho1.out (by decide) k hk k (by simpa using hm) rfl)
            · exact (by have := Inv.take Hi.out p (by omega) (by have := Hlj.out; omega) q (by rw [← HM.out]; exact hqm); rw [← HMS.out] at this; exact this)
            · exact ((Hu.out.alloc _).drew.trans HU1.out (fun t ht => .inr (by rw [← HBS.out]; simp at ht; omega))).trans HU2.out (fun t ht => .inr (by rw [← HBS.out]; exact own_ge Ho.out t (by simpa using ht)))

      · as_aux_lemma =>
        have hps := Hi.out.short
        have hps2 : way.length ≤ 60 := by have := Hlj.out; omega
        obtain ⟨a4, cap4, hv4, hn4, hc4, hcells4⟩ := own_view Hw.out
        subst hv4
        obtain ⟨m, hm⟩ : ∃ m, m = way.length := ⟨_, rfl⟩
        rw [← hm] at hn4 hps hps2 ⊢
        have HM := hid hm
        have HC4 := hid hcells4
        clear hm hcells4
        by_cases hw0 : m = 0
        · have hw1 : decide (0 < m) = false := by simp; omega
          have HW0 : Hid (wr.ownsRow B 3 1 (.slice a4 m cap4) way.length (natVals way)) := by rw [HM.out]; exact Hw.out
          clear Hw
          have Hw := HW0
          clear HW0 hw0
          have Ho1 : Hid ((wr.alloc (.cells #[.int .i64 (p : Int), .int .i64 1, .int .i64 0] 31)).ownsRow B 31 3 u3 j (evCells l)) := Ho.out.alloc _
          have HB1 : Hid (B ≤ (wr.alloc (.cells #[.int .i64 (p : Int), .int .i64 1, .int .i64 0] 31)).heap.size) := by have := Hu.out.size; have := HBS.out; simp; show _ ≤ _; omega
          go_wp2_with (first | (at_builtin; refine wpList_app (W := wr.alloc (.cells #[.int .i64 (p : Int), .int .i64 1, .int .i64 0] 31)) rfl (.tmp 61) (.tmp 63) 24 rfl B 31 i31 _ 3 24 Try.underlying24 HI31.out HA31.out HB31.out HC31.out rfl (by decide) u3 j (evCells l) rfl Ho1.out [.int .i64 (p : Int), .int .i64 1, .int .i64 0] 31 (by first | rfl | (rw [World.size_alloc]; rfl)) rfl (evVals_one ⟨p, 1, 0⟩) (by omega) (by omega) HB1.out ?_; intro v3' w2 ho2 hu2 hl2; have HO2 := hid ho2; have HU2 := hid hu2; clear ho2 hu2 hl2))
          go_roundg (n - (j + 1))
          case measure => have := Hj.out; omega
          case rel =>
            refine ⟨j + 1, l ++ [⟨p, 1, 0⟩], way, by go_num, by show _ = _; omega, by have := Hlj.out; show _ = _; simp; exact this, ?_, ?_, ?_, ?_⟩
            · rw [evCells_snoc]; exact HO2.out
            · exact own_upd (Hw.out.alloc _) HU2.out (fun k hk hm => own_own_ne Hw.out Ho.out (by decide) k hk k (by simpa using hm) rfl)
            · exact Inv.local Hi.out p (by omega)
            · exact (Hu.out.alloc _).trans HU2.out (fun t ht => .inr (by rw [← HBS.out]; exact own_ge Ho.out t (by simpa using ht)))
        · have hw1 : decide (0 < m) = true := by simp; omega
          go_wp2_with fail
          refine (rest_some _ _ _ (by omega) (by omega)).mono ?_
          rintro e w' ⟨q, hq, -, rfl, rfl⟩
          have hqm : q < m := by omega
          obtain ⟨g4, rfl, hg4, hcell4, hfr4⟩ := HC4.out q (.int .i64 ((way.getD q 0 : Nat) : Int)) (by rw [natVals_get]; rw [← HM.out]; exact hqm)
          have hcA : ∀ o, (wr.alloc o).cell? ⟨g4, q, none⟩ = some (.int .i64 ((way.getD q 0 : Nat) : Int)) := fun o => ((Upd.refl [] wr).alloc o).cell hcell4 (by simp)
          obtain ⟨ms, hms⟩ : ∃ ms, ms = way.getD q 0 := ⟨_, rfl⟩
          rw [← hms] at hcA
          have HMS := hid hms
          have HFR := hid hfr4
          clear hms hcell4 hfr4 hw0
          go_wp2_with fail
          go_region
          clear hcA
          go_wp2_with fail
          have HW0 : Hid ((wr.alloc (.cells #[.int .i64 (p : Int), .int .i64 3, .int .i64 (ms : Int)] 31)).drew.ownsRow B 3 1 (.slice (some ⟨g4, 0, none⟩) m cap4) m (natVals way)) := by
            have := (Hw.out.alloc (.cells #[.int .i64 (p : Int), .int .i64 3, .int .i64 (ms : Int)] 31)).drew
            rw [← HM.out] at this; exact this
          refine (delete_any B g4 m cap4 q way _ HW0.out HM.out hqm).mono ?_
          rintro e w1 ⟨rfl, hw1', hu1⟩
          have HW1 := hid hw1'
          have HU1 := hid hu1
          clear hw1' hu1
          have hg4s : g4 < wr.heap.size := own_lt Hw.out g4 rfl
          have hbk : w1.heap[wr.heap.size]? = some (.cells #[.int .i64 (p : Int), .int .i64 3, .int .i64 (ms : Int)] 31 (0, 0)) :=
            HU1.out.blk (w := (wr.alloc (.cells #[.int .i64 (p : Int), .int .i64 3, .int .i64 (ms : Int)] 31)).drew) (blk_new wr _) (fun hm => by simp at hm; omega)
          have c0 : w1.cell? ⟨wr.heap.size, 0, none⟩ = some (.int .i64 (p : Int)) := (blk_cell hbk 0).trans rfl
          have c1 : w1.cell? ⟨wr.heap.size, 1, none⟩ = some (.int .i64 3) := (blk_cell hbk 1).trans rfl
          have c2 : w1.cell? ⟨wr.heap.size, 2, none⟩ = some (.int .i64 (ms : Int)) := (blk_cell hbk 2).trans rfl
          have Ho1 : Hid (w1.ownsRow B 31 3 u3 j (evCells l)) := own_upd (Ho.out.alloc _).drew HU1.out (fun k hk hm => own_own_ne Ho.out Hw.out (by decide) k hk g4 rfl (by simpa using hm))
          have HB1 : Hid (B ≤ w1.heap.size) := by have := HU1.out.size; have := Hu.out.size; have := HBS.out; simp at *; show _ ≤ _; omega
          clear hbk
          go_wp2_with (first | (at_builtin; refine wpList_app (W := w1) rfl (.tmp 61) (.tmp 63) 24 rfl B 31 i31 _ 3 24 Try.underlying24 HI31.out HA31.out HB31.out HC31.out rfl (by decide) u3 j (evCells l) rfl Ho1.out [.int .i64 (p : Int), .int .i64 3, .int .i64 (ms : Int)] 31 (by first | rfl | (rw [World.size_alloc]; rfl)) rfl (evVals_one ⟨p, 3, ms⟩) (by omega) (by omega) HB1.out ?_; intro v3' w2 ho2 hu2 hl2; have HO2 := hid ho2; have HU2 := hid hu2; clear ho2 hu2 hl2))
          go_roundg (n - (j + 1))
          case measure => have := Hj.out; omega
          case rel =>
            refine ⟨j + 1, l ++ [⟨p, 3, ms⟩], way.eraseIdx q, by go_num, by show _ = _; omega, by have := Hlj.out; show _ = _; simp; exact this, ?_, ?_, ?_, ?_⟩
            · rw [evCells_snoc]; exact HO2.out
            · exact own_upd (by rw [List.length_eraseIdx_of_lt (by rw [← HM.out]; exact hqm), ← HM.out]; exact HW1.out) HU2.out (fun k hk hm => own_own_ne HW1.out Ho1.out (by decide) k hk k (by simpa using hm) rfl)
            · exact (by have := Inv.take Hi.out p (by omega) (by have := Hlj.out; omega) q (by rw [← HM.out]; exact hqm); rw [← HMS.out] at this; exact this)
            · exact ((Hu.out.alloc _).drew.trans HU1.out (fun t ht => .inr (by rw [← HBS.out]; simp at ht; omega))).trans HU2.out (fun t ht => .inr (by rw [← HBS.out]; exact own_ge Ho.out t (by simpa using ht)))

      · as_aux_lemma =>
        have Ho1 : Hid ((wr.alloc (.cells #[.int .i64 (p : Int), .int .i64 1, .int .i64 0] 31)).ownsRow B 31 3 u3 j (evCells l)) := Ho.out.alloc _
        have HB1 : Hid (B ≤ (wr.alloc (.cells #[.int .i64 (p : Int), .int .i64 1, .int .i64 0] 31)).heap.size) := by have := Hu.out.size; have := HBS.out; simp; show _ ≤ _; omega
        go_wp2_with (first | (at_builtin; refine wpList_app (W := wr.alloc (.cells #[.int .i64 (p : Int), .int .i64 1, .int .i64 0] 31)) rfl (.tmp 61) (.tmp 63) 24 rfl B 31 i31 _ 3 24 Try.underlying24 HI31.out HA31.out HB31.out HC31.out rfl (by decide) u3 j (evCells l) rfl Ho1.out [.int .i64 (p : Int), .int .i64 1, .int .i64 0] 31 (by first | rfl | (rw [World.size_alloc]; rfl)) rfl (evVals_one ⟨p, 1, 0⟩) (by omega) (by omega) HB1.out ?_; intro v3' w2 ho2 hu2 hl2; have HO2 := hid ho2; have HU2 := hid hu2; clear ho2 hu2 hl2))
        go_roundg (n - (j + 1))
        case measure => have := Hj.out; omega
        case rel =>
          refine ⟨j + 1, l ++ [⟨p, 1, 0⟩], way, by go_num, by show _ = _; omega, by have := Hlj.out; show _ = _; simp; exact this, ?_, ?_, ?_, ?_⟩
          · rw [evCells_snoc]; exact HO2.out
          · exact own_upd (Hw.out.alloc _) HU2.out (fun k hk hm => own_own_ne Hw.out Ho.out (by decide) k hk k (by simpa using hm) rfl)
          · exact Inv.local Hi.out p (by omega)
          · exact (Hu.out.alloc _).trans HU2.out (fun t ht => .inr (by rw [← HBS.out]; exact own_ge Ho.out t (by simpa using ht)))
    · go_wp2_with fail
      go_ret
      have hjn : j = n := by have := Hj.out; omega
      have hlj := Hlj.out
      subst hlj
      obtain ⟨a', cap', rfl, h1, h2, hr⟩ := evRow_of Ho.out
      exact ⟨l, a', cap', rfl, hr, h1, h2, Hi.out.valid, Hi.out.four, by rw [hjn, HN.out], Hu.out⟩
end Go.Proofs.Ytcdladnbcamgjaa.Hi
