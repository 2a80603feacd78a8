/- The walk of the statement ShrinkAgain. -/
import Derived.Test.YtnikkakeiajmgaaSd
import Derived.Test.YtnikkakeiajmgaaSe
namespace Go.Proofs.Ytnikkakeiajmgaa.Sh
open Go Go.RowKit Go.Proofs.Ytnikkakeiajmgaa Go.Proofs.Ytnikkakeiajmgaa.K Go.Proofs.Ytnikkakeiajmgaa.M Go.Proofs.Ytnikkakeiajmgaa.O Go.Proofs.Ytnikkakeiajmgaa.R Go.Proofs.Ytnikkakeiajmgaa.So Go.Proofs.Ytnikkakeiajmgaa.Pa

theorem own_some {w : World} {B n : Nat} {v : Value} {xs : List Int} (h : w.ownsRow B 3 1 v n (ints xs)) (h0 : 0 < n) : ∃ g c, v = .slice (some ⟨g, 0, none⟩) n c ∧ n ≤ c ∧ c ≤ 9223372036854775807 ∧ xs.length = n ∧ (∀ j, j < xs.length → w.cell? ⟨g, 0 + j, none⟩ = some (.int .i64 (xs.getD j 0))) ∧ ∀ j, w.frozen? ⟨g, j, none⟩ = false := by
  have hl : xs.length = n := by have := h.1; rw [ints_length] at this; omega
  obtain ⟨a, c, rfl, h1, h2, hc⟩ := own_view h
  obtain ⟨g, rfl, -, -, hf⟩ := hc 0 _ (ints_get xs 0 (by omega))
  refine ⟨g, c, rfl, h1, h2, hl, fun j hj => ?_, hf⟩
  obtain ⟨g', e, -, h3, -⟩ := hc j _ (ints_get xs j hj)
  cases e
  rw [Nat.zero_add]; exact h3
theorem equal_own {w : World} {B B' n : Nat} {v v' : Value} {xs : List Int} (h : w.ownsRow B 3 1 v n (ints xs)) (h' : w.ownsRow B' 3 1 v' n (ints xs)) (hn : n ≤ 9223372036854775807) :
    Calls Try.prog 33 #[v, v'] w fun e w' => e = .returned (.bool true) ∧ Upd [] w w' := by
  by_cases h0 : 0 < n
  · obtain ⟨g, c, rfl, -, -, hl, hc, -⟩ := own_some h h0
    obtain ⟨g', c', rfl, -, -, -, hc', -⟩ := own_some h' h0
    refine (Try.slices_Equal_int g 0 n c g' 0 n c' xs xs w (by omega) (by omega) hn hn hc hc').mono ?_
    rintro e w' ⟨rfl, q, rfl⟩
    exact ⟨by rw [beq_self_eq_true], (Upd.refl [] w).drewN q⟩
  · have e : n = 0 := by omega
    subst e
    obtain ⟨a, c, rfl, -⟩ := own_view h
    obtain ⟨a', c', rfl, -⟩ := own_view h'
    refine (Try.slices_Equal_int_empty a a' c 0 c' w (by omega)).mono ?_
    rintro e w' ⟨rfl, rfl⟩
    exact ⟨rfl, Upd.refl _ _⟩
theorem compact_own {w : World} {B n : Nat} {v : Value} {xs : List Int} (h : w.ownsRow B 3 1 v n (ints xs)) (hn : n ≤ 9223372036854775807) :
    Calls Try.prog 32 #[v] w fun e w' => ∃ v', e = .returned v' ∧ w'.ownsRow B 3 1 v' (Go.Lib.compact xs).length (ints (Go.Lib.compact xs)) ∧ Upd v.ownBlock.toList w w' := by
  by_cases h0 : 0 < n
  · obtain ⟨g, c, rfl, hnc, hc9, hl, hc, hf⟩ := own_some h h0
    refine (Try.slices_Compact_int_cells g 0 n c xs w (by omega) hn hnc hc (fun j _ => hf _)).mono ?_
    rintro e w' ⟨rfl, q, rfl⟩
    have e0 : xs.take n = xs := List.take_of_length_le (by omega)
    rw [e0]
    have hcl : (Go.Lib.compact xs).length ≤ n := by have := Go.Lib.compact_length_le xs; omega
    obtain ⟨zl, hzl⟩ : ∃ zl, zl = (Go.Lib.compact xs ++ List.replicate (n - (Go.Lib.compact xs).length) 0).map (Value.int .i64) := ⟨_, rfl⟩
    have hlen : zl.length = n := by rw [hzl]; simp; omega
    rw [← hzl]
    have h1 : (w.drewN q).ownsRow B 3 1 (.slice (some ⟨g, 0, none⟩) n c) n (ints xs) := own_new h ((Upd.refl [] w).drewN q)
    have h2 := row_setCells zl 0 h1 (by rw [ints_length]; omega)
    have h3 := row_take (m := (Go.Lib.compact xs).length) h2 hcl
    refine ⟨_, rfl, ?_, cells_upd g zl 0 ((Upd.refl _ w).drewN q) (.inl (by simp [Value.ownBlock]))⟩
    have e3 : ((ints xs).take 0 ++ zl ++ (ints xs).drop (0 + zl.length)).take ((Go.Lib.compact xs).length * 1) = ints (Go.Lib.compact xs) := by
      rw [List.take_zero, List.nil_append, Nat.mul_one, List.take_append_of_le_length (by omega), hzl, List.map_append, List.take_left' (by simp)]
      rfl
    rw [e3] at h3
    exact h3
  · have e : n = 0 := by omega
    subst e
    have hx : xs = [] := List.eq_nil_of_length_eq_zero (by have := h.1; rw [ints_length] at this; omega)
    subst hx
    obtain ⟨a, c, rfl, -⟩ := own_view h
    refine (Try.slices_Compact_int_empty a c w).mono ?_
    rintro e w' ⟨rfl, rfl⟩
    exact ⟨_, rfl, h, Upd.refl _ _⟩
theorem row_12 (w : World) : LR (w.alloc (.cells #[.int .i64 1, .int .i64 2] 3)) (some ⟨w.heap.size, 0, none⟩) 2 2 [1, 2] := by
  refine ⟨?_, rfl, by omega, by omega⟩
  intro i hi
  refine ⟨_, rfl, ?_⟩
  have h := blk_new w (.cells #[.int .i64 1, .int .i64 2] 3)
  rw [addz, blk_cell h]
  match i, hi with
  | 0, _ => rfl
  | 1, _ => rfl

theorem far {w w' : World} {B B' n n' : Nat} {v v' : Value} {xs ys : List Int} (h : w.ownsRow B 3 1 v n (ints xs)) (h' : w.ownsRow B' 3 1 v' n' (ints ys)) (hb : ∀ k, v.ownBlock = some k → k < B') (u : Upd v'.ownBlock.toList w w') : w'.ownsRow B 3 1 v n (ints xs) :=
  own_upd h u (fun k hk hs => by
    have h1 := hb k hk
    have h2 := own_ge h' k (by simpa using hs)
    omega)
set_option maxHeartbeats 16000000 in
set_option maxRecDepth 100000 in
theorem the_walk (a0 : Option Addr) (len0 cap0 : Nat) (z0 : List Int) (a1 : Option Addr) (len1 cap1 : Nat) (z1 : List Int) (w : World) (hx : IntRow w a0 z0) (hl : z0.length = len0) (hlc : len0 ≤ cap0) (hc : cap0 ≤ 9223372036854775807) (hx1 : IntRow w a1 z1) (hl1 : z1.length = len1) (hlc1 : len1 ≤ cap1) (hc1 : cap1 ≤ 9223372036854775807) (hb : len1 * 8 ≤ 140737488351232) :
    Calls Try.prog 7 #[.slice a0 len0 cap0, .slice a1 len1 cap1] w fun e w' => e = .returned (.bool true) ∧ Upd [] w w' := by
  have HL0 := hid (show LR w a0 len0 cap0 z0 from ⟨hx, hl, hlc, hc⟩)
  have HL1 := hid (show LR w a1 len1 cap1 z1 from ⟨hx1, hl1, hlc1, hc1⟩)
  clear hx hl hx1 hl1
  obtain ⟨wa, hwa⟩ : ∃ wa, wa = w.alloc (.cells #[.slice a1 len1 cap1] 22) := ⟨_, rfl⟩
  obtain ⟨X, hX⟩ : ∃ X, X = w.heap.size := ⟨_, rfl⟩
  have XA := hid (show wa.heap[X]? = some (.cells #[.slice a1 len1 cap1] 22 (0, 0)) by rw [hwa, hX]; exact K.blk_new w _)
  have UA := hid (show Upd [] w wa by rw [hwa]; exact (Upd.refl [] w).alloc _)
  have SA := hid (show wa.heap.size = X + 1 by rw [hwa, hX]; simp)
  obtain ⟨wb, hwb⟩ : ∃ wb, wb = wa.alloc (.cells #[.int .i64 1, .int .i64 2] 3) := ⟨_, rfl⟩
  have UB := hid (show Upd [] wa wb by rw [hwb]; exact (Upd.refl [] wa).alloc _)
  have R12 := row_12 wa
  rw [← hwb, SA.out] at R12
  have L12 := hid (list25 (some ⟨X + 1, 0, none⟩) 2 2 [1, 2] wb R12 (by omega))
  obtain ⟨n, hn⟩ : ∃ n : Nat, min (len0 : Int) 200 = (n : Int) := ⟨min len0 200, by omega⟩
  have hmin := fun ats ty => min_nat ats ty .i64 .i64 (len0 : Int) 200 n hn
  have hn1 : n ≤ len0 := by omega
  have hn2 : n ≤ 200 := by omega
  have sl1 : (n : Int) ≤ (cap0 : Int) := by omega
  have hmf : ∀ (fn : Fn) (first cap : Array Value) (w : World), (Instr.makeFunc fn first cap).run Try.prog w = .ok (.func fn first cap) w := fun _ _ _ _ => rfl
  clear hn R12
  go_enter Try.func7, Try.ntmps7
  go_wp2_with fail
  rw [← hwa, ← hX, ← hwb]
  refine L12.out.mono ?_
  rintro e w1 ⟨⟨hp, -⟩ | ⟨-, v, rfl, xs, ho, -, hp, hle, -⟩, hu⟩
  · cases hp
  have h1 := least_one hp hle
  rw [h1] at ho
  obtain ⟨a5, k5, rfl, -⟩ := own_view ho
  have U1 := hid ((UA.out.trans UB.out (fun t ht => by cases ht)).trans hu (fun t ht => by cases ht))
  have X1 := hid (hu.blk (UB.out.blk XA.out (by simp)) (by simp))
  have cx : w1.cell? ⟨X, 0, none⟩ = some (.slice a1 len1 cap1) := K.blk_cell X1.out 0
  have L1 := hid (list26 a0 n cap0 (z0.take n) X a1 len1 cap1 z1 w1 cx (HL1.out.upd U1.out) ((HL0.out.upd U1.out).take hn1) hn2)
  obtain ⟨D1, hD1⟩ : ∃ D, D = w1.heap.size := ⟨_, rfl⟩
  rw [← hD1] at L1
  clear hwa hX hwb UA UB XA SA L12 hp hle ho h1 hu cx hD1 hlc hc hlc1 hc1
  go_wp2_with fail
  refine L1.out.mono ?_
  rintro e w2 ⟨⟨hp, rfl⟩ | ⟨-, v8, rfl, x, ho, hx200, hp, hle, -⟩, hu⟩
  · have U2 := hid (U1.out.trans hu (fun t ht => by cases ht))
    have X2 := hid (hu.blk X1.out (by simp))
    have C2 := hid (clos26 X a1 len1 cap1 z1 a0 n cap0 (z0.take n) w2 (K.blk_cell X2.out 0) ((HL0.out.upd U2.out).take hn1) (HL1.out.upd U2.out))
    rw [hp] at C2
    clear hp hu L1 U1 X1
    go_wp2_with fail
    refine C2.out.mono ?_
    rintro e w3 ⟨rfl, hu⟩
    have U3 := hid (U2.out.trans hu (fun t ht => by cases ht))
    clear hu C2
    go_wp2_with fail
    go_ret
    exact ⟨rfl, U3.out⟩
  · have U2 := hid (U1.out.trans hu (fun t ht => by cases ht))
    have X2 := hid (hu.blk X1.out (by simp))
    have O2 := hid ho
    have HP := hid hp
    have HLE := hid hle
    obtain ⟨m, hm⟩ : ∃ m, m = x.length := ⟨_, rfl⟩
    rw [← hm] at O2 hx200
    have HM := hid hm
    obtain ⟨a8, k8, rfl, lr8⟩ := LR.of_own O2.out
    have L2 := hid (list26 a8 m k8 x X a1 len1 cap1 z1 w2 (K.blk_cell X2.out 0) (HL1.out.upd U2.out) lr8 hx200)
    obtain ⟨D2, hD2⟩ : ∃ D, D = w2.heap.size := ⟨_, rfl⟩
    rw [← hD2] at L2
    have F2 := hid (fun k (hk : (Value.slice a8 m k8).ownBlock = some k) => (show k < D2 by rw [hD2]; exact own_lt O2.out k hk))
    clear hu ho hp hle hm lr8 hD2 L1 U1 X1
    go_wp2_with fail
    refine L2.out.mono ?_
    rintro e w3 ⟨⟨hp, -⟩ | ⟨-, v10, rfl, y, ho, -, -, -, hyx⟩, hu⟩
    · rw [HP.out] at hp; cases hp
    have hy := hyx (least_tight HP.out HLE.out)
    subst hy
    rw [← HM.out] at ho
    have U3 := hid (U2.out.trans hu (fun t ht => by cases ht))
    have X3 := hid (hu.blk X2.out (by simp))
    have O3 := hid (own_new O2.out hu)
    have Y3 := hid ho
    have cx : w3.cell? ⟨X, 0, none⟩ = some (.slice a1 len1 cap1) := K.blk_cell X3.out 0
    have K1 := hid (clone_any a1 len1 cap1 z1 w3 (HL1.out.upd U3.out) hb)
    obtain ⟨D3, hD3⟩ : ∃ D, D = w3.heap.size := ⟨_, rfl⟩
    rw [← hD3] at K1
    have G3 := hid (show w.heap.size ≤ D3 by rw [hD3]; exact U3.out.size)
    have F3 := hid (fun k (hk : (Value.slice a8 m k8).ownBlock = some k) => (show k < D3 by rw [hD3]; exact own_lt O3.out k hk))
    have FY3 := hid (fun k (hk : v10.ownBlock = some k) => (show k < D3 by rw [hD3]; exact own_lt Y3.out k hk))
    clear hu ho hyx L2 U2 X2 O2 F2 hD3
    go_wp2_with fail
    refine K1.out.mono ?_
    rintro e w4 ⟨v12, rfl, ho, hu⟩
    have U4 := hid (U3.out.trans hu (fun t ht => by cases ht))
    have O4 := hid (own_new O3.out hu)
    have Y4 := hid (own_new Y3.out hu)
    have W4 := hid ho
    have S4 := hid (sort_own ho (by omega))
    clear hu ho K1 U3 O3 Y3 X3 cx
    go_wp2_with fail
    refine S4.out.mono ?_
    rintro e w5 ⟨rfl, ho, hu⟩
    have U5 := hid (U4.out.trans hu (fun t ht => .inr (Nat.le_trans G3.out (own_ge W4.out t (by simpa using ht)))))
    have O5 := hid (far O4.out W4.out F3.out hu)
    have Y5 := hid (far Y4.out W4.out FY3.out hu)
    have W5 := hid ho
    have C5 := hid (compact_own ho (by omega))
    clear hu ho S4 U4 O4 Y4 W4
    go_wp2_with fail
    refine C5.out.mono ?_
    rintro e w6 ⟨v12', rfl, ho, hu⟩
    have U6 := hid (U5.out.trans hu (fun t ht => .inr (Nat.le_trans G3.out (own_ge W5.out t (by simpa using ht)))))
    have O6 := hid (far O5.out W5.out F3.out hu)
    have Y6 := hid (far Y5.out W5.out FY3.out hu)
    have hw := want_eq HP.out HLE.out
    rw [← hw, sortL_length, ← HM.out] at ho
    have W6 := hid ho
    obtain ⟨_, _, _, lr8⟩ := LR.of_own O6.out
    have K2 := hid (show Calls Try.prog 30 #[.slice a8 m k8] w6 fun e w' => ∃ v, e = .returned v ∧ w'.ownsRow w6.heap.size 3 1 v m (ints y) ∧ Upd [] w6 w' by
      obtain ⟨a', c', e', lr8⟩ := LR.of_own O6.out
      cases e'
      exact clone_any a8 m k8 y w6 lr8 (by omega))
    obtain ⟨D6, hD6⟩ : ∃ D, D = w6.heap.size := ⟨_, rfl⟩
    rw [← hD6] at K2
    have G6 := hid (show w.heap.size ≤ D6 by rw [hD6]; exact U6.out.size)
    have F6 := hid (fun k (hk : (Value.slice a8 m k8).ownBlock = some k) => (show k < D6 by rw [hD6]; exact own_lt O6.out k hk))
    have FY6 := hid (fun k (hk : v10.ownBlock = some k) => (show k < D6 by rw [hD6]; exact own_lt Y6.out k hk))
    have FW6 := hid (fun k (hk : v12'.ownBlock = some k) => (show k < D6 by rw [hD6]; exact own_lt W6.out k hk))
    clear hu ho hw C5 U5 O5 Y5 W5 hD6 lr8 F3 FY3 G3
    go_wp2_with fail
    refine K2.out.mono ?_
    rintro e w7 ⟨v13, rfl, ho, hu⟩
    have U7 := hid (U6.out.trans hu (fun t ht => by cases ht))
    have O7 := hid (own_new O6.out hu)
    have Y7 := hid (own_new Y6.out hu)
    have W7 := hid (own_new W6.out hu)
    have Z7 := hid ho
    have S7 := hid (sort_own ho (by omega))
    clear hu ho K2 U6 O6 Y6 W6
    go_wp2_with fail
    refine S7.out.mono ?_
    rintro e w8 ⟨rfl, ho, hu⟩
    have U8 := hid (U7.out.trans hu (fun t ht => .inr (Nat.le_trans G6.out (own_ge Z7.out t (by simpa using ht)))))
    have O8 := hid (far O7.out Z7.out F6.out hu)
    have Y8 := hid (far Y7.out Z7.out FY6.out hu)
    have W8 := hid (far W7.out Z7.out FW6.out hu)
    have E1 := hid (equal_own O8.out Y8.out (by omega))
    have E2 := fun w' (u : Upd [] w8 w') => hid (equal_own (own_new ho u) (own_new W8.out u) (by omega))
    clear hu ho S7 U7 O7 Y7 W7 Z7
    go_wp2_with fail
    refine E1.out.mono ?_
    rintro e w9 ⟨rfl, hu⟩
    have U9 := hid (U8.out.trans hu (fun t ht => by cases ht))
    have E2' := E2 w9 hu
    clear hu E1 E2 O8 Y8 W8 U8
    go_wp2_with fail
    refine E2'.out.mono ?_
    rintro e w10 ⟨rfl, hu⟩
    have U10 := hid (U9.out.trans hu (fun t ht => by cases ht))
    clear hu E2'
    go_wp2_with fail
    go_ret
    exact ⟨rfl, U10.out⟩
end Go.Proofs.Ytnikkakeiajmgaa.Sh
