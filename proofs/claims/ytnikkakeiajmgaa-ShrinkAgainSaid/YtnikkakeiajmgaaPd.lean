/- The walk of Steps. -/
import Derived.Test.YtnikkakeiajmgaaPc
namespace Go.Proofs.Ytnikkakeiajmgaa.Pa
open Go Go.RowKit Go.Proofs.Ytnikkakeiajmgaa Go.Proofs.Ytnikkakeiajmgaa.K Go.Proofs.Ytnikkakeiajmgaa.M Go.Proofs.Ytnikkakeiajmgaa.O Go.Proofs.Ytnikkakeiajmgaa.R

theorem info29 : (Try.prog.info? 29).map (fun i => (i.zero, i.size, i.bytes)) = some (some (.agg #[.int .i64 0, .int .i64 0, .int .i64 0]), 3, 24) := by kernel_rfl
theorem info24 : (Try.prog.info? 24).map (fun i => (i.zero, i.size, i.bytes)) = some (some (.slice none 0 0), 1, 24) := by kernel_rfl
theorem info_parts {P : Program} {t : TypeId} {z : Option Value} {s b : Nat} (h : (P.info? t).map (fun i => (i.zero, i.size, i.bytes)) = some (z, s, b)) : ∃ i, P.info? t = some i ∧ i.zero = z ∧ i.size = s ∧ i.bytes = b := by
  cases e : P.info? t with
  | none => rw [e] at h; simp at h
  | some i => rw [e] at h; simp at h; exact ⟨i, rfl, h.1, h.2.1, h.2.2⟩
theorem region_tail {P : Program} {id : Nat} {Q : Exit → Act → World → Prop} {a : Act} {w : World} {l : List Oper} (n : Nat) (hm : P.follows .mixedOrders = true) (hB : Region.lexTailB .any l.toArray n = true)
    (h : wpStill P l.toArray w.drew (fun a' => wpList P l.toArray Q (l.drop n) a' w.drew) (l.take n) a) : (Code.region id l.toArray true).wp P Q a w := wp_region_still_tail n hm hB h
theorem rest_q (a n : Int) (w : World) (h1 : 1 ≤ n) (h2 : n ≤ 1000000) : Calls Try.prog 10 #[.int .i64 a, .int .i64 n] w fun e w' => e = .returned (.int .i64 (restN a n : Int)) ∧ w' = w :=
  (rest_any a n w h1 h2).mono fun _ _ ⟨he, hw⟩ => ⟨he, hw.symm⟩
/-- Own steps. -/
def StepsOf (w : World) (B : Nat) (v : Value) (L : List St) : Prop := w.ownsRow B 29 3 v L.length (cellsOf L)
theorem stc_one (s : St) : ∀ u ∈ stc s, u.oneCell' = true := by
  intro u hu
  simp [stc] at hu
  rcases hu with rfl | rfl | rfl <;> rfl
theorem cells_get : ∀ (l : List St) (i : Nat) (h : i < l.length), (cellsOf l)[i * 3]? = some (.int .i64 ((l[i].who.val : Nat) : Int)) ∧ (cellsOf l)[i * 3 + 1]? = some (.int .i64 ((l[i].rd.val : Nat) : Int)) ∧ (cellsOf l)[i * 3 + 2]? = some (.int .i64 ((l[i].wr.val : Nat) : Int))
  | s :: l, 0, _ => ⟨rfl, rfl, rfl⟩
  | s :: l, i + 1, h => by
    have ih := cells_get l i (by simpa using h)
    have e : cellsOf (s :: l) = stc s ++ cellsOf l := rfl
    rw [e, List.getElem?_append_right (by simp [stc]; omega), List.getElem?_append_right (by simp [stc]; omega), List.getElem?_append_right (by simp [stc]; omega)]
    have e1 : (i + 1) * 3 - (stc s).length = i * 3 := by simp [stc]; omega
    have e2 : (i + 1) * 3 + 1 - (stc s).length = i * 3 + 1 := by simp [stc]; omega
    have e3 : (i + 1) * 3 + 2 - (stc s).length = i * 3 + 2 := by simp [stc]; omega
    rw [e1, e2, e3]
    exact ih
theorem StepsOf.at {w : World} {B : Nat} {a : Option Addr} {L : List St} {n k : Nat} (h : StepsOf w B (.slice a n k) L) : StepAt w a L := fun i hi => by
  obtain ⟨a', k', e, _, _, hc⟩ := own_view h
  simp only [Value.slice.injEq] at e
  obtain ⟨rfl, -, rfl⟩ := e
  obtain ⟨c0, c1, c2⟩ := cells_get L i hi
  obtain ⟨g, ea, _, h0, _⟩ := hc _ _ c0
  obtain ⟨g1, ea1, _, h1, _⟩ := hc _ _ c1
  obtain ⟨g2, ea2, _, h2, _⟩ := hc _ _ c2
  subst ea
  cases ea1; cases ea2
  exact ⟨g, rfl, h0, h1, h2⟩

set_option maxHeartbeats 16000000 in
set_option maxRecDepth 100000 in
theorem steps_any (a : Option Addr) (len cap : Nat) (xs : List Int) (w : World) (hx : IntRow w a xs) (hl : xs.length = len) (hlc : len ≤ cap) (hc : cap ≤ 9223372036854775807) :
    Calls Try.prog 9 #[.slice a len cap] w fun e w' => ∃ v, e = .returned v ∧ ∃ L, StepsOf w' w.heap.size v L ∧ L.length ≤ 40 ∧ Upd [] w w' := by
  obtain ⟨i29, hi29, hz29a, hz29b, hz29c⟩ := info_parts info29
  have HI29 := hid hi29
  have HA29 := hid hz29a
  have HB29 := hid hz29b
  have HC29 := hid hz29c
  clear hi29 hz29a hz29b hz29c
  have HX := hid hx
  have HL := hid hl
  clear hx hl
  obtain ⟨B, hB⟩ : ∃ B, B = w.heap.size := ⟨_, rfl⟩
  have HBS := hid hB
  rw [← hB]
  clear hB
  obtain ⟨n, hn⟩ : ∃ n : Nat, min (len : Int) 40 = (n : Int) := ⟨min len 40, by omega⟩
  have hmin := fun ats ty => min_nat ats ty .i64 .i64 (len : Int) 40 n hn
  have hn1 : n ≤ len := by omega
  have hn2 : n ≤ 40 := by omega
  clear hn
  have s1 : (n : Int) ≤ (cap : Int) := by omega
  have s2 : (n : Int) ≤ (len : Int) := by omega
  go_enter Try.func9, Try.ntmps9
  go_wp2_with fail
  go_loopg [3, 12] n (fun d v3 v12 wr => ∃ (i : Nat) (L : List St), v12 = .int .i64 (i : Int) ∧ i ≤ n ∧ Hid (i + d = n) ∧ Hid (L.length = i) ∧ Hid (StepsOf wr B v3 L) ∧ Hid (Upd [] w wr))
  case atStart => exact ⟨0, [], rfl, by omega, hid (by omega), hid rfl, hid (World.ownsRow_nil _ _ _ _), hid (Upd.refl [] w)⟩
  case round =>
    obtain ⟨i, L, rfl, hi, Hd, HLen, HO, HU⟩ := hrel
    obtain ⟨a3, k3, e3, -⟩ := own_view HO.out
    subst e3
    unfold StepsOf at HO
    rw [HLen.out] at HO ⊢
    by_cases hin : i < n
    · have hi' : (i : Int) < (n : Int) := by omega
      obtain ⟨x, rfl, hc⟩ := (HX.out.upd HU.out) i (by rw [HL.out]; omega)
      obtain ⟨z, hz⟩ : ∃ z, z = xs.getD i 0 := ⟨_, rfl⟩
      rw [← hz] at hc
      clear hz
      go_wp2_with fail
      refine J.J_begin (fun _ => True) 21 (by kernel_rfl) ⟨by kernel_rfl, by kernel_rfl, by kernel_rfl⟩ trivial (fun LAST HS => ?_)
      refine J.J_take (i := 0) (v := ?_) LAST (by rfl) (by decide) (by kernel_rfl) (by kernel_rfl) (by intro _ _ _ h; exact h) HS (Or.inl ⟨by rfl, ?_⟩) ?_
      rotate_left
      · intro w hSw; (try dsimp only at hSw); go_simp; try with_reducible rfl
      try simp only [Act.put, List.setIfInBounds_toArray, List.set_cons_zero, List.set_cons_succ]
      refine J.J_take (i := 1) (v := ?_) LAST (by rfl) (by decide) (by kernel_rfl) (by kernel_rfl) (by intro _ _ _ h; exact h) HS (Or.inl ⟨by rfl, ?_⟩) ?_
      rotate_left
      · intro w hSw; (try dsimp only at hSw); go_simp; try with_reducible rfl
      try simp only [Act.put, List.setIfInBounds_toArray, List.set_cons_zero, List.set_cons_succ]
      refine J.J_take (i := 3) (v := ?_) LAST (by rfl) (by decide) (by kernel_rfl) (by kernel_rfl) (by intro _ _ _ h; exact h) HS (Or.inl ⟨by rfl, ?_⟩) ?_
      rotate_left
      · intro w hSw; (try dsimp only at hSw); go_simp; try with_reducible rfl
      try simp only [Act.put, List.setIfInBounds_toArray, List.set_cons_zero, List.set_cons_succ]
      refine J.J_take (i := 4) (v := ?_) LAST (by rfl) (by decide) (by kernel_rfl) (by kernel_rfl) (by intro _ _ _ h; exact h) HS (Or.inl ⟨by rfl, ?_⟩) ?_
      rotate_left
      · intro w hSw; (try dsimp only at hSw); go_simp; try with_reducible rfl
      try simp only [Act.put, List.setIfInBounds_toArray, List.set_cons_zero, List.set_cons_succ]
      refine J.J_take (i := 6) (v := ?_) LAST (by rfl) (by decide) (by kernel_rfl) (by kernel_rfl) (by intro _ _ _ h; exact h) HS (Or.inl ⟨by rfl, ?_⟩) ?_
      rotate_left
      · intro w hSw; (try dsimp only at hSw); go_simp; try with_reducible rfl
      try simp only [Act.put, List.setIfInBounds_toArray, List.set_cons_zero, List.set_cons_succ]
      refine J.J_take (i := 7) (v := ?_) LAST (by rfl) (by decide) (by kernel_rfl) (by kernel_rfl) (by intro _ _ _ h; exact h) HS (Or.inl ⟨by rfl, ?_⟩) ?_
      rotate_left
      · intro w hSw; (try dsimp only at hSw); go_simp; try with_reducible rfl
      try simp only [Act.put, List.setIfInBounds_toArray, List.set_cons_zero, List.set_cons_succ]
      refine J.J_take (i := 10) (v := ?_) LAST (by rfl) (by decide) (by kernel_rfl) (by kernel_rfl) (by intro _ _ _ h; exact h) HS (Or.inl ⟨by rfl, ?_⟩) ?_
      rotate_left
      · intro w hSw; (try dsimp only at hSw); go_simp; try with_reducible rfl
      try simp only [Act.put, List.setIfInBounds_toArray, List.set_cons_zero, List.set_cons_succ]
      refine J.J_take (i := 11) (v := ?_) LAST (by rfl) (by decide) (by kernel_rfl) (by kernel_rfl) (by intro _ _ _ h; exact h) HS (Or.inl ⟨by rfl, ?_⟩) ?_
      rotate_left
      · intro w hSw; (try dsimp only at hSw); go_simp; try with_reducible rfl
      try simp only [Act.put, List.setIfInBounds_toArray, List.set_cons_zero, List.set_cons_succ]
      refine J.J_take (i := 14) (v := ?_) LAST (by rfl) (by decide) (by kernel_rfl) (by kernel_rfl) (by intro _ _ _ h; exact h) HS (Or.inl ⟨by rfl, ?_⟩) ?_
      rotate_left
      · intro w hSw; (try dsimp only at hSw); go_simp; try with_reducible rfl
      try simp only [Act.put, List.setIfInBounds_toArray, List.set_cons_zero, List.set_cons_succ]
      refine J.J_take (i := 15) (v := ?_) LAST (by rfl) (by decide) (by kernel_rfl) (by kernel_rfl) (by intro _ _ _ h; exact h) HS (Or.inl ⟨by rfl, ?_⟩) ?_
      rotate_left
      · intro w hSw; (try dsimp only at hSw); go_simp; try with_reducible rfl
      try simp only [Act.put, List.setIfInBounds_toArray, List.set_cons_zero, List.set_cons_succ]
      refine J.J_one (i := 2) (by rfl) (by decide) (by kernel_rfl) (fun KK hK => ?_)
      go_simp
      refine (rest_some _ _ _ (by omega) (by omega)).mono ?_
      rintro e w' ⟨r0, hr0, -, rfl, rfl⟩
      go_simp
      refine hK.out _ _ trivial ?_
      clear hK KK
      try simp only [List.setIfInBounds_toArray]
      refine J.J_one (i := 5) (by rfl) (by decide) (by kernel_rfl) (fun KK hK => ?_)
      go_simp
      refine (rest_some _ _ _ (by omega) (by omega)).mono ?_
      rintro e w' ⟨r1, hr1, -, rfl, rfl⟩
      go_simp
      refine hK.out _ _ trivial ?_
      clear hK KK
      try simp only [List.setIfInBounds_toArray]
      refine J.J_one (i := 8) (by rfl) (by decide) (by kernel_rfl) (fun KK hK => ?_)
      go_simp
      refine (rest_some _ _ _ (by omega) (by omega)).mono ?_
      rintro e w' ⟨r2, hr2, -, rfl, rfl⟩
      go_simp
      refine hK.out _ _ trivial ?_
      clear hK KK
      try simp only [List.setIfInBounds_toArray]
      have ha := land_num r1 r2 (by omega) (by omega)
      have hA : r1 &&& r2 < 256 := Nat.lt_of_le_of_lt Nat.and_le_left (by omega)
      obtain ⟨p1, hp1⟩ : ∃ p1, p1 = r1 &&& r2 := ⟨_, rfl⟩
      rw [← hp1] at ha hA
      clear hp1
      refine J.J_take (i := 9) (v := ?_) LAST (by rfl) (by decide) (by kernel_rfl) (by kernel_rfl) (by intro _ _ _ h; exact h) HS (Or.inl ⟨by rfl, ?_⟩) ?_
      rotate_left
      · intro w hSw; (try dsimp only at hSw); go_simp; try with_reducible rfl
      try simp only [Act.put, List.setIfInBounds_toArray, List.set_cons_zero, List.set_cons_succ]
      refine J.J_one (i := 12) (by rfl) (by decide) (by kernel_rfl) (fun KK hK => ?_)
      go_simp
      refine (rest_some _ _ _ (by omega) (by omega)).mono ?_
      rintro e w' ⟨r3, hr3, -, rfl, rfl⟩
      go_simp
      refine hK.out _ _ trivial ?_
      clear hK KK
      try simp only [List.setIfInBounds_toArray]
      obtain ⟨q3, hq3, hw3⟩ : ∃ q3 : Nat, q3 < 256 ∧ IntKind.i64.wrap (2 ^ r3) = (q3 : Int) := by
        have : r3 = 0 ∨ r3 = 1 ∨ r3 = 2 ∨ r3 = 3 := by omega
        rcases this with rfl | rfl | rfl | rfl
        · exact ⟨1, by decide, by decide⟩
        · exact ⟨2, by decide, by decide⟩
        · exact ⟨4, by decide, by decide⟩
        · exact ⟨8, by decide, by decide⟩
      refine J.J_take (i := 13) (v := ?_) LAST (by rfl) (by decide) (by kernel_rfl) (by kernel_rfl) (by intro _ _ _ h; exact h) HS (Or.inl ⟨by rfl, ?_⟩) ?_
      rotate_left
      · intro w hSw; (try dsimp only at hSw); go_simp; try with_reducible rfl
      try simp only [Act.put, List.setIfInBounds_toArray, List.set_cons_zero, List.set_cons_succ]
      refine J.J_one (i := 16) (by rfl) (by decide) (by kernel_rfl) (fun KK hK => ?_)
      go_simp
      refine (rest_some _ _ _ (by omega) (by omega)).mono ?_
      rintro e w' ⟨r4, hr4, -, rfl, rfl⟩
      go_simp
      refine hK.out _ _ trivial ?_
      clear hK KK
      try simp only [List.setIfInBounds_toArray]
      have hb := land_num q3 r4 hq3 (by omega)
      have hB2 : q3 &&& r4 < 256 := Nat.lt_of_le_of_lt Nat.and_le_left (by omega)
      obtain ⟨p2, hp2⟩ : ∃ p2, p2 = q3 &&& r4 := ⟨_, rfl⟩
      rw [← hp2] at hb hB2
      clear hp2 hw3
      refine J.J_take (i := 17) (v := ?_) LAST (by rfl) (by decide) (by kernel_rfl) (by kernel_rfl) (by intro _ _ _ h; exact h) HS (Or.inl ⟨by rfl, ?_⟩) ?_
      rotate_left
      · intro w hSw; (try dsimp only at hSw); go_simp; try with_reducible rfl
      try simp only [Act.put, List.setIfInBounds_toArray, List.set_cons_zero, List.set_cons_succ]
      refine J.J_take (i := 18) (v := ?_) LAST (by rfl) (by decide) (by kernel_rfl) (by kernel_rfl) (by intro _ _ _ h; exact h) HS (Or.inl ⟨by rfl, ?_⟩) ?_
      rotate_left
      · intro w hSw; (try dsimp only at hSw); go_simp; try with_reducible rfl
      try simp only [Act.put, List.setIfInBounds_toArray, List.set_cons_zero, List.set_cons_succ]
      obtain ⟨s, hs⟩ : ∃ s : St, s = ⟨⟨r0, by omega⟩, ⟨p1, hA⟩, ⟨p2, hB2⟩⟩ := ⟨_, rfl⟩
      have es : stc s = [.int .i64 (r0 : Int), .int .i64 (p1 : Int), .int .i64 (p2 : Int)] := by rw [hs]; rfl
      have ES := hid es
      have HL40 : L.length ≤ 40 := by rw [HLen.out]; omega
      clear hs es
      refine J.J_one (i := 19) (by rfl) (by decide) (by kernel_rfl) (fun KK hK => ?_)
      go_simp
      have VA := hid (show Upd [] wr ((wr.alloc (.cells #[.int .i64 (r0 : Int), .int .i64 (p1 : Int), .int .i64 (p2 : Int)] 29)).drew) from ((Upd.refl [] wr).alloc _).drew)
      refine hK.out _ _ trivial ?_
      clear hK KK
      try simp only [List.setIfInBounds_toArray]
      have OV := hid (own_new HO.out VA.out)
      refine J.J_one (i := 20) (by rfl) (by decide) (by kernel_rfl) (fun KK hK => ?_)
      refine J.step_app rfl (.tmp 16) (.tmp 35) 24 rfl B 29 i29 _ 3 24 Try.underlying24 HI29.out HA29.out HB29.out HC29.out rfl (by decide) (.slice a3 i k3) i (cellsOf L) (by rfl) OV.out ⟨wr.heap.size, 0, none⟩ 1 1 [.int .i64 (r0 : Int), .int .i64 (p1 : Int), .int .i64 (p2 : Int)] (by rfl) rfl (fun j u hj => by rw [show (⟨wr.heap.size, 0, none⟩ : Addr).add j = ⟨wr.heap.size, j, none⟩ by unfold Addr.add; split <;> simp_all]; refine (K.blk_cell (K.blk_new wr _) j).trans ?_; simpa using hj) (by intro u hu; simp at hu; rcases hu with rfl | rfl | rfl <;> rfl) (by unfold maxLen; omega) (by omega) (by have := HU.out.size; have := VA.out.size; have := HBS.out; omega) ?_
      intro v5 w5 ho5 hu5 hl5
      rw [← ES.out, ← cellsOf_snoc] at ho5
      have O5 := hid ho5
      have U5 := hid ((HU.out.trans VA.out (fun t ht => by cases ht)).trans hu5 (fun t ht => .inr (by rw [← HBS.out]; exact own_ge HO.out t (by simpa using ht))))
      clear ho5 hu5 hl5
      refine hK.out _ _ trivial ?_
      clear hK KK
      try simp only [Act.put, List.setIfInBounds_toArray, List.set_cons_zero, List.set_cons_succ]
      refine J.J_last (by rfl) (by kernel_rfl) (by kernel_rfl) ?_
      clear LAST
      go_simp
      go_wp2_with fail
      go_roundg (n - (i + 1))
      case measure => have := Hd.out; omega
      case rel =>
        refine ⟨i + 1, L ++ [s], by go_num, by omega, hid (by omega), hid (by simp [HLen.out]), hid ?_, U5⟩
        unfold StepsOf
        rw [List.length_append, HLen.out]
        exact O5.out
    · have hi' : ¬ (i : Int) < (n : Int) := by omega
      go_wp2_with fail
      go_ret
      exact ⟨_, rfl, L, by unfold StepsOf; rw [HLen.out]; exact HO.out, by rw [HLen.out]; omega, HU.out⟩
end Go.Proofs.Ytnikkakeiajmgaa.Pa
