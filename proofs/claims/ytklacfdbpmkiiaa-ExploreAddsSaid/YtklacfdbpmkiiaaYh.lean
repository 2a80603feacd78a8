/- explore.Ends and explore.Orders. -/
import Derived.Test.YtklacfdbpmkiiaaYg
namespace Go.Proofs.Ytklacfdbpmkiiaa.Y
open Go Go.RowKit Go.Proofs.Ytklacfdbpmkiiaa Go.Proofs.Ytklacfdbpmkiiaa.K Go.Proofs.Ytklacfdbpmkiiaa.M Go.Proofs.Ytklacfdbpmkiiaa.O Go.Proofs.Ytklacfdbpmkiiaa.R Go.Proofs.Ytklacfdbpmkiiaa.A Go.Proofs.Ytklacfdbpmkiiaa.MS
open Go.Proofs.Ytklacfdbpmkiiaa.X (D St Ps noD act wr dep may newC newH stp)

theorem zero_a (i : Nat) : X.zeroSt.a.getD i 0 = 0 := by
  match i with
  | 0 | 1 | 2 | 3 => rfl
  | n + 4 => simp [X.zeroSt]
theorem zero_c (i : Nat) : X.zeroSt.c.getD i 0 = 0 := by
  match i with
  | 0 | 1 | 2 | 3 => rfl
  | n + 4 => simp [X.zeroSt]
theorem rem_zero (P : Ps) : X.rem P X.zeroSt = (P.map List.length).sum := by
  unfold X.rem
  congr 1
  apply List.ext_getElem?
  intro i
  rw [List.getElem?_map, List.getElem?_map]
  by_cases h : i < P.length
  · rw [List.getElem?_range h, List.getElem?_eq_getElem h]
    simp only [Option.map_some]
    rw [zero_a, List.getD_eq_getElem?_getD, List.getElem?_eq_getElem h]; rfl
  · rw [List.getElem?_eq_none (by simpa using Nat.le_of_not_lt h), List.getElem?_eq_none (Nat.le_of_not_lt h)]; rfl
theorem sok_zero {P : Ps} (ok : Ok P) : SOk P X.zeroSt :=
  ⟨rfl, rfl, rfl, fun i => by rw [zero_a]; exact Nat.zero_le _, fun i => by rw [zero_c, rem_zero]; have := ok.len; omega, fun i => by rw [show X.zeroSt.h.getD i 0 = 0 from zero_c i, rem_zero]; have := ok.len; omega⟩
/-- All that is found. -/
def found (P : Ps) : List (List Nat × St) := X.go P 13 X.zeroSt (X.none' P)
theorem found_len {P : Ps} (ok : Ok P) (h1 : 1 ≤ P.length) : (found P).length ≤ 4 ^ 13 :=
  Nat.le_trans (X.len_go P h1 13 _ _) (Nat.pow_le_pow_left ok.few 13)
theorem addAll_len : ∀ (xs S : List St), (addAll S xs).length ≤ S.length + xs.length
  | [], S => Nat.le_refl _
  | x :: xs, S => by
    have := addAll_len xs (if x ∈ S then S else S ++ [x])
    show (addAll (if x ∈ S then S else S ++ [x]) xs).length ≤ _
    by_cases h : x ∈ S
    · rw [if_pos h] at *; simp only [List.length_cons]; omega
    · rw [if_neg h] at *; simp only [List.length_append, List.length_cons, List.length_nil] at *; omega
def endsOf (P : Ps) : List St := addAll [] ((found P).map (·.2))
theorem rem13 {P : Ps} (ok : Ok P) : X.rem P X.zeroSt ≤ 13 := by rw [rem_zero]; have := ok.len; omega
theorem ends_mem {P : Ps} (e : St) : e ∈ endsOf P ↔ ∃ o, (o, e) ∈ found P := by
  unfold endsOf
  rw [addAll_mem]
  constructor
  · rintro (h | h)
    · cases h
    · obtain ⟨x, hx, rfl⟩ := List.mem_map.1 h
      exact ⟨x.1, hx⟩
  · rintro ⟨o, h⟩
    exact .inr (List.mem_map.2 ⟨_, h, rfl⟩)
theorem ends_ne {P : Ps} (ok : Ok P) : endsOf P ≠ [] := by
  have hw := SOk.wf ok (sok_zero ok)
  obtain ⟨o, e, h1, h2⟩ := X.some_end 13 X.zeroSt (rem13 ok) hw
  obtain ⟨o', h3⟩ := X.come_to (rem13 ok) hw h1 h2
  have := (ends_mem e).2 ⟨o', h3⟩
  intro h; rw [h] at this; cases this

set_option maxHeartbeats 8000000 in
set_option maxRecDepth 100000 in
theorem ends_any (a : Option Addr) (cap : Nat) (P : Ps) (w : World) (hP : PAt w a P) (hN : PNil w a P) (hc1 : P.length ≤ cap) (hc2 : cap ≤ 9223372036854775807) (h1 : 1 ≤ P.length) (ok : Ok P) :
    Calls Try.prog 10 #[.slice a P.length cap] w fun e w' => ∃ v L, e = .returned (.tuple #[v, .int .i64 0]) ∧ w'.ownsRow w.heap.size 35 12 v L.length (scells L) ∧ L.Perm (endsOf P) ∧ Upd [] w w' := by
  have CH := check_any a cap P w hP hN hc1 hc2 ok
  have GO := hid fun (wz : World) (ba F M : Nat) (hp : PAt wz a P) (hA : Arr wz ba 4 P.length (fun k => .bool ((X.none' P).getD k false))) (hf : FAt wz F M (.slice none 0 0) [] [] []) =>
    goOn_any 13 a cap P X.zeroSt (X.none' P) ba P.length none 0 [] F M (.slice none 0 0) [] [] [] wz hp hc1 hc2 h1 ok (sok_zero ok) (by rw [rem_zero]; have := ok.len; omega) (X.none_sl P _) hA (Nat.le_refl _) ⟨none, 0, rfl, Nat.le_refl _, by omega, .inl ⟨rfl, rfl⟩⟩ (by rw [rem_zero]; have := ok.len; simpa using this) hf (by decide)
  have hzs : stv X.zeroSt = .agg #[.int .i64 0, .int .i64 0, .int .i64 0, .int .i64 0, .int .i64 0, .int .i64 0, .int .i64 0, .int .i64 0, .int .i64 0, .int .i64 0, .int .i64 0, .int .i64 0] := rfl
  rw [hzs] at GO
  obtain ⟨N, hn⟩ : ∃ N, N = P.length := ⟨_, rfl⟩
  have HP := hid hP
  have HOK := hid ok
  have HH1 := hid h1
  rw [← hn] at CH GO hc1 ⊢
  have h4 : N ≤ 4 := by rw [hn]; exact ok.few
  have HN := hid hn
  have hmm := @run_makeMap Try.prog
  have hmk := makeB N (by omega)
  clear hP hN ok hn h1 hzs
  go_enter Try.func10, Try.ntmps10
  go_wp2_with fail
  refine CH.mono ?_
  rintro e w1 ⟨rfl, hu⟩
  have U1 := hid hu
  obtain ⟨M, hM⟩ : ∃ M, M = w1.heap.size := ⟨_, rfl⟩
  clear hu CH
  go_upto_region 5 with (fail)
  obtain ⟨W2, hW2⟩ : ∃ W2, W2 = (w1.alloc (.map #[] 0)).alloc (.cells #[.map (some M), .slice none 0 0] 62) := ⟨_, rfl⟩
  have hb2 : W2.heap[M + 1]? = some (.cells #[.map (some M), .slice none 0 0] 62 (0, 0)) := by rw [hW2, hM]; exact blk_new2 w1 _ _
  have hs2 : IsSet Kst W2 M (([] : List St).map stv) := by rw [hW2, hM]; exact (IsSet.made Kst w1).new ((Upd.refl [] _).alloc _)
  have U2 := hid (show Upd [] w W2 by rw [hW2]; exact (U1.out.alloc _).alloc _)
  have HMB := hid (show w.heap.size ≤ M by rw [hM]; exact U1.out.size)
  have eM : w1.heap.size + 1 = M + 1 := by rw [hM]
  rw [← hM]
  rw [← hW2]
  try rw [← hM]
  clear hM hmm
  obtain ⟨W3, hW3⟩ : ∃ W3, W3 = W2.alloc (.cells (Array.replicate N (.bool false)) 4) := ⟨_, rfl⟩
  have A3 : Arr W3 W2.heap.size 4 N (fun k => .bool ((X.none' P).getD k false)) := by
    rw [hW3, ← List.toArray_replicate]
    refine arr_new W2 _ 4 N _ (by simp) (fun z hz => ?_)
    rw [X.none_get, List.getElem?_replicate, if_pos hz]
  have F3 : FAt W3 (M + 1) M (.slice none 0 0) [] [] [] := by
    rw [hW3]
    exact FAt.new ⟨hb2, World.ownsRow_nil _ _ _ _, fun j hj => (by cases hj), hs2, fun s hs => (by cases hs)⟩ ((Upd.refl [] W2).alloc _)
  have U3 := hid (show Upd [] w W3 by rw [hW3]; exact U2.out.alloc _)
  have CL := GO.out W3 W2.heap.size (M + 1) M (HP.out.new U3.out) A3 F3
  have HW3 := hid hW3
  clear hW2 hW3 hb2 hs2 A3 F3 GO
  go_wp2_with fail
  rw [← HW3.out]
  refine CL.mono ?_
  rintro e w4 ⟨rfl, v', us', hf, hu, hv⟩
  have hos : [] ++ (X.go P 13 X.zeroSt (X.none' P)).map (pre []) = (found P).map (·.1) := by
    rw [List.nil_append]; exact List.map_congr_left (fun x _ => rfl)
  rw [hos, show addAll [] ((X.go P 13 X.zeroSt (X.none' P)).map (·.2)) = endsOf P from rfl] at hf
  have HF := hid hf
  have HU := hid (U3.out.trans hu (fun t ht => by
    rcases List.mem_cons.1 ht with rfl | ht
    · exact .inr (by have := HMB.out; omega)
    · rcases List.mem_cons.1 ht with rfl | ht
      · exact .inr HMB.out
      · simp [Value.ownBlock] at ht))
  have HV := hid (fun k (hk : v'.ownBlock = some k) => (show w.heap.size ≤ k by
    rcases hv k hk with h | h
    · cases h
    · have := U3.out.size; omega))
  have c0 := (K.blk_cell hf.blk 0).trans rfl
  have c1 := (K.blk_cell hf.blk 1).trans rfl
  obtain ⟨av, kv, ev, -, -, -⟩ := own_view hf.own
  subst ev
  clear hf hu hv hos CL
  have SRT := sorted_any M (endsOf P) w4 HF.out.set HF.out.w4 (ends_ne HOK.out) (Nat.le_trans (addAll_len _ _) (by
    have := found_len HOK.out HH1.out
    simp only [List.length_nil, List.length_map, Nat.zero_add]
    exact Nat.le_trans this (by decide)))
  have HS := hid (HU.out.size)
  go_wp2_with fail
  refine SRT.mono ?_
  rintro e w5 ⟨v5, L, rfl, ho, hp, hu⟩
  have HO := hid (own_mono ho HS.out)
  have HP5 := hid hp
  have HU5 := hid (HU.out.trans hu (by simp))
  clear ho hp hu SRT
  go_wp2_with fail
  go_ret2
  exact ⟨v5, L, rfl, HO.out, HP5.out, HU5.out⟩

set_option maxHeartbeats 8000000 in
set_option maxRecDepth 100000 in
theorem orders_any (a : Option Addr) (cap : Nat) (P : Ps) (w : World) (hP : PAt w a P) (hN : PNil w a P) (hc1 : P.length ≤ cap) (hc2 : cap ≤ 9223372036854775807) (h1 : 1 ≤ P.length) (ok : Ok P) :
    Calls Try.prog 9 #[.slice a P.length cap] w fun e w' => ∃ v us, e = .returned (.tuple #[v, .int .i64 0]) ∧ w'.ownsRow 0 22 1 v (found P).length us ∧ (∀ j, j < (found P).length → OrdAt w' (us.getD j undef) (((found P).map (·.1)).getD j [])) ∧ (∀ k, v.ownBlock = some k → w.heap.size ≤ k) ∧ Upd [] w w' := by
  have CH := check_any a cap P w hP hN hc1 hc2 ok
  have GO := hid fun (wz : World) (ba F M : Nat) (hp : PAt wz a P) (hA : Arr wz ba 4 P.length (fun k => .bool ((X.none' P).getD k false))) (hf : FAt wz F M (.slice none 0 0) [] [] []) =>
    goOn_any 13 a cap P X.zeroSt (X.none' P) ba P.length none 0 [] F M (.slice none 0 0) [] [] [] wz hp hc1 hc2 h1 ok (sok_zero ok) (by rw [rem_zero]; have := ok.len; omega) (X.none_sl P _) hA (Nat.le_refl _) ⟨none, 0, rfl, Nat.le_refl _, by omega, .inl ⟨rfl, rfl⟩⟩ (by rw [rem_zero]; have := ok.len; simpa using this) hf (by decide)
  have hzs : stv X.zeroSt = .agg #[.int .i64 0, .int .i64 0, .int .i64 0, .int .i64 0, .int .i64 0, .int .i64 0, .int .i64 0, .int .i64 0, .int .i64 0, .int .i64 0, .int .i64 0, .int .i64 0] := rfl
  rw [hzs] at GO
  obtain ⟨N, hn⟩ : ∃ N, N = P.length := ⟨_, rfl⟩
  have HP := hid hP
  have HOK := hid ok
  have HH1 := hid h1
  rw [← hn] at CH GO hc1 ⊢
  have h4 : N ≤ 4 := by rw [hn]; exact ok.few
  have HN := hid hn
  have hmm := @run_makeMap Try.prog
  have hmk := makeB N (by omega)
  clear hP hN ok hn h1 hzs
  go_enter Try.func9, Try.ntmps9
  go_wp2_with fail
  refine CH.mono ?_
  rintro e w1 ⟨rfl, hu⟩
  have U1 := hid hu
  obtain ⟨M, hM⟩ : ∃ M, M = w1.heap.size := ⟨_, rfl⟩
  clear hu CH
  go_upto_region 5 with (fail)
  obtain ⟨W2, hW2⟩ : ∃ W2, W2 = (w1.alloc (.map #[] 0)).alloc (.cells #[.map (some M), .slice none 0 0] 62) := ⟨_, rfl⟩
  have hb2 : W2.heap[M + 1]? = some (.cells #[.map (some M), .slice none 0 0] 62 (0, 0)) := by rw [hW2, hM]; exact blk_new2 w1 _ _
  have hs2 : IsSet Kst W2 M (([] : List St).map stv) := by rw [hW2, hM]; exact (IsSet.made Kst w1).new ((Upd.refl [] _).alloc _)
  have U2 := hid (show Upd [] w W2 by rw [hW2]; exact (U1.out.alloc _).alloc _)
  have HMB := hid (show w.heap.size ≤ M by rw [hM]; exact U1.out.size)
  have eM : w1.heap.size + 1 = M + 1 := by rw [hM]
  rw [← hM]
  rw [← hW2]
  try rw [← hM]
  clear hM hmm
  obtain ⟨W3, hW3⟩ : ∃ W3, W3 = W2.alloc (.cells (Array.replicate N (.bool false)) 4) := ⟨_, rfl⟩
  have A3 : Arr W3 W2.heap.size 4 N (fun k => .bool ((X.none' P).getD k false)) := by
    rw [hW3, ← List.toArray_replicate]
    refine arr_new W2 _ 4 N _ (by simp) (fun z hz => ?_)
    rw [X.none_get, List.getElem?_replicate, if_pos hz]
  have F3 : FAt W3 (M + 1) M (.slice none 0 0) [] [] [] := by
    rw [hW3]
    exact FAt.new ⟨hb2, World.ownsRow_nil _ _ _ _, fun j hj => (by cases hj), hs2, fun s hs => (by cases hs)⟩ ((Upd.refl [] W2).alloc _)
  have U3 := hid (show Upd [] w W3 by rw [hW3]; exact U2.out.alloc _)
  have CL := GO.out W3 W2.heap.size (M + 1) M (HP.out.new U3.out) A3 F3
  have HW3 := hid hW3
  clear hW2 hW3 hb2 hs2 A3 F3 GO
  go_wp2_with fail
  rw [← HW3.out]
  refine CL.mono ?_
  rintro e w4 ⟨rfl, v', us', hf, hu, hv⟩
  have hos : [] ++ (X.go P 13 X.zeroSt (X.none' P)).map (pre []) = (found P).map (·.1) := by
    rw [List.nil_append]; exact List.map_congr_left (fun x _ => rfl)
  rw [hos, show addAll [] ((X.go P 13 X.zeroSt (X.none' P)).map (·.2)) = endsOf P from rfl] at hf
  have HF := hid hf
  have HU := hid (U3.out.trans hu (fun t ht => by
    rcases List.mem_cons.1 ht with rfl | ht
    · exact .inr (by have := HMB.out; omega)
    · rcases List.mem_cons.1 ht with rfl | ht
      · exact .inr HMB.out
      · simp [Value.ownBlock] at ht))
  have HV := hid (fun k (hk : v'.ownBlock = some k) => (show w.heap.size ≤ k by
    rcases hv k hk with h | h
    · cases h
    · have := U3.out.size; omega))
  have c0 := (K.blk_cell hf.blk 0).trans rfl
  have c1 := (K.blk_cell hf.blk 1).trans rfl
  obtain ⟨av, kv, ev, -, -, -⟩ := own_view hf.own
  subst ev
  clear hf hu hv hos CL
  go_wp2_with fail
  go_ret2
  have h1 := HF.out.own
  have h2 := HF.out.row
  have h3 := HV.out
  simp only [List.length_map] at h1 h2 h3
  exact ⟨.slice av (found P).length kv, us', rfl, h1, h2, h3, HU.out⟩
end Go.Proofs.Ytklacfdbpmkiiaa.Y
