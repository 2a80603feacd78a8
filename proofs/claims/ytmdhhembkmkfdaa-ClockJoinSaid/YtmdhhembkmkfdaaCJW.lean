/- The walk of the statement ClockJoin, its function 3. -/
import Derived.Test.YtmdhhembkmkfdaaCJ
namespace Go.Proofs.Ytmdhhembkmkfdaa.CJ
open Go Go.RowKit Go.Proofs.Ytmdhhembkmkfdaa.K Go.Proofs.Ytmdhhembkmkfdaa.O Go.Proofs.Ytmdhhembkmkfdaa.CL Go.Proofs.Ytmdhhembkmkfdaa.EQ

theorem row_new (w : World) (cs : Array Value) (xs : List Int) (t : TypeId) (hc : cs.toList = ints xs) : IntRow (w.alloc (.cells cs t)) (some ⟨w.heap.size, 0, none⟩) xs := by
  intro i hi
  refine ⟨_, rfl, ?_⟩
  have h := blk_new w (.cells cs t)
  have e : (⟨w.heap.size, 0, none⟩ : Addr).add i = ⟨w.heap.size, i, none⟩ := by unfold Addr.add; split <;> simp_all
  rw [e, blk_cell h, ← Array.getElem?_toList, hc, ints_get _ _ hi]
theorem row_two (w : World) (cs : Array Value) (xs : List Int) (t : TypeId) (hc : cs.toList = ints xs) (o : Obj) : IntRow ((w.alloc (.cells cs t)).alloc o) (some ⟨w.heap.size, 0, none⟩) xs :=
  (row_new w cs xs t hc).upd ((Upd.refl _ _).alloc _)

theorem less_12 (w : World) : Calls Try.prog 15 #[.slice (some ⟨w.heap.size, 0, none⟩) 1 1, .slice (some ⟨w.heap.size + 1, 0, none⟩) 2 2] ((w.alloc (.cells #[.int .i64 1] 3)).alloc (.cells #[.int .i64 1, .int .i64 2] 3))
    fun e w' => e = .returned (.bool true) ∧ Upd [] w w' :=
  (less_any (some ⟨w.heap.size, 0, none⟩) 1 1 [1] (some ⟨w.heap.size + 1, 0, none⟩) 2 2 [1, 2] ((w.alloc (.cells #[.int .i64 1] 3)).alloc (.cells #[.int .i64 1, .int .i64 2] 3)) (row_two _ _ _ _ (by rfl) _) rfl (by have := row_new (w.alloc (.cells #[.int .i64 1] 3)) #[.int .i64 1, .int .i64 2] [1, 2] 3 (by rfl); simpa using this) rfl (by decide) (by decide)).mono
    fun _ _ ⟨he, hw⟩ => ⟨he.trans (by rw [show lessL [1] [1, 2] = true by decide]), by rw [hw]; exact ((Upd.refl _ _).alloc _).alloc _⟩
theorem join_1532 (w : World) : Calls Try.prog 17 #[.slice (some ⟨w.heap.size, 0, none⟩) 2 2, .slice (some ⟨w.heap.size + 1, 0, none⟩) 2 2] ((w.alloc (.cells #[.int .i64 1, .int .i64 5] 3)).alloc (.cells #[.int .i64 3, .int .i64 2] 3))
    fun e w' => ∃ a c, e = .returned (.slice a 2 c) ∧ IntRow w' a [3, 5] ∧ Upd [] w w' :=
  (join_any (some ⟨w.heap.size, 0, none⟩) 2 2 [1, 5] (some ⟨w.heap.size + 1, 0, none⟩) 2 2 [3, 2] ((w.alloc (.cells #[.int .i64 1, .int .i64 5] 3)).alloc (.cells #[.int .i64 3, .int .i64 2] 3)) (row_two _ _ _ _ (by rfl) _) rfl (by have := row_new (w.alloc (.cells #[.int .i64 1, .int .i64 5] 3)) #[.int .i64 3, .int .i64 2] [3, 2] 3 (by rfl); simpa using this) rfl (by decide) (by decide)).mono
    fun _ _ ⟨v, he, ho, hu⟩ => by
      have e : joinL [1, 5] [3, 2] = [3, 5] := by decide
      rw [e] at ho
      obtain ⟨a, c, rfl, _, _, h⟩ := intRow_of ho
      exact ⟨a, c, he, h, (((Upd.refl _ _).alloc _).alloc _).trans hu (by simp)⟩
theorem equal_35 (w : World) (a : Option Addr) (c : Nat) (h : IntRow w a [3, 5]) : Calls Try.prog 16 #[.slice a 2 c, .slice (some ⟨w.heap.size, 0, none⟩) 2 2] (w.alloc (.cells #[.int .i64 3, .int .i64 5] 3))
    fun e w' => e = .returned (.bool true) ∧ Upd [] w w' :=
  (equal_any a 2 c [3, 5] (some ⟨w.heap.size, 0, none⟩) 2 2 [3, 5] (w.alloc (.cells #[.int .i64 3, .int .i64 5] 3)) (h.upd ((Upd.refl _ _).alloc _)) rfl (row_new _ _ _ _ (by rfl)) rfl (by decide) (by decide)).mono
    fun _ _ ⟨he, q, hw⟩ => ⟨he.trans (by rw [decide_eq_true (rfl : ([3, 5] : List Int) = [3, 5])]), by rw [hw]; exact ((Upd.refl _ _).alloc _).drewN _⟩
/-- A join, its result as a row -/
theorem join_row (a : Option Addr) (n c : Nat) (xs : List Int) (b : Option Addr) (m d : Nat) (ys : List Int) (w : World) (hx : IntRow w a xs) (hxl : xs.length = n) (hy : IntRow w b ys) (hyl : ys.length = m) (hn : n ≤ 17592186044416) (hm : m ≤ 17592186044416) :
    Calls Try.prog 17 #[.slice a n c, .slice b m d] w fun e w' => ∃ x l k, e = .returned (.slice x l k) ∧ (joinL xs ys).length = l ∧ l = max n m ∧ IntRow w' x (joinL xs ys) ∧ Upd [] w w' :=
  (join_any a n c xs b m d ys w hx hxl hy hyl hn hm).mono fun _ _ ⟨v, he, ho, hu⟩ => by
    obtain ⟨x, k, rfl, _, _, h⟩ := intRow_of ho
    exact ⟨x, _, k, he, rfl, by rw [joinL_length, hxl, hyl], h, hu⟩
theorem low_row (a : Option Addr) (n c : Nat) (xs : List Int) (w : World) (hx : IntRow w a xs) (hxl : xs.length = n) (hn : n * 8 ≤ 140737488351232) :
    Calls Try.prog 20 #[.slice a n c] w fun e w' => ∃ x k, e = .returned (.slice x n k) ∧ (lowL xs).length = n ∧ IntRow w' x (lowL xs) ∧ Upd [] w w' :=
  (low_any a n c xs w hx hxl hn).mono fun _ _ ⟨v, he, ho, hu⟩ => by
    obtain ⟨x, k, rfl, _, _, h⟩ := intRow_of ho
    have e : (lowL xs).length = n := by simp only [lowL, List.length_map]; exact hxl
    exact ⟨x, k, by rw [e] at he; exact he, e, h, hu⟩

set_option maxHeartbeats 400000 in
set_option maxRecDepth 100000 in
theorem join_walk (a : Option Addr) (n c : Nat) (xs : List Int) (b : Option Addr) (m d : Nat) (ys : List Int) (g : Option Addr) (o k : Nat) (zs : List Int) (w : World) (hx : IntRow w a xs) (hxl : xs.length = n) (hy : IntRow w b ys) (hyl : ys.length = m) (hz : IntRow w g zs) (hzl : zs.length = o)
    (hn : n * 8 ≤ 140737488351232) (hm : m * 8 ≤ 140737488351232) (ho : o * 8 ≤ 140737488351232) :
    Calls Try.prog 3 #[.slice a n c, .slice b m d, .slice g o k] w fun e w' => e = .returned (.bool true) ∧ Upd [] w w' := by
  have HX := hid hx
  have HXL := hid hxl
  have HY := hid hy
  have HYL := hid hyl
  have HZ := hid hz
  have HZL := hid hzl
  clear hx hxl hy hyl hz hzl
  go_enter Try.func3, Try.ntmps3
  go_wp2_with fail
  refine (less_12 _).mono ?_
  rintro e w1 ⟨rfl, hu1⟩
  have U1 := hid hu1
  clear hu1
  go_wp2_with fail
  refine (join_1532 _).mono ?_
  rintro e w2 ⟨a2, c2, rfl, hr2, hu2⟩
  have U2 := hid (U1.out.trans hu2 (by simp))
  have R2 := hid hr2
  clear U1 hr2 hu2
  go_wp2_with fail
  refine (equal_35 _ _ _ R2.out).mono ?_
  rintro e w3 ⟨rfl, hu3⟩
  have U3 := hid (U2.out.trans hu3 (by simp))
  clear U2 R2 hu3 
  go_wp2_with fail
  have hX3 := HX.out.upd U3.out
  have hY3 := HY.out.upd U3.out
  refine (join_row a n c xs b m d ys w3 hX3 HXL.out hY3 HYL.out (by omega) (by omega)).mono ?_
  rintro e w4 ⟨j, jl, jc, rfl, hjl, hjm, hj, hu4⟩
  have U4 := hid (U3.out.trans hu4 (by simp))
  have J := hid hj
  have JL := hid hjl
  have JM := hid hjm
  clear hX3 hY3 hu4 U3 hj hjl hjm
  go_wp2_with fail
  refine (low_row a n c xs w4 (HX.out.upd U4.out) HXL.out hn).mono ?_
  rintro e w5 ⟨l1, c5, rfl, hl5, hr5, hu5⟩
  have U5 := hid (U4.out.trans hu5 (by simp))
  have J5 := hid (J.out.upd hu5)
  have A5 := hid hr5
  have A5L := hid hl5
  clear U4 J hu5 hr5 hl5
  go_wp2_with fail
  refine (low_row a n c xs w5 (HX.out.upd U5.out) HXL.out hn).mono ?_
  rintro e w6 ⟨l2, c6, rfl, hl6, hr6, hu6⟩
  have U6 := hid (U5.out.trans hu6 (by simp))
  have J6 := hid (J5.out.upd hu6)
  have A6 := hid (A5.out.upd hu6)
  have B6 := hid hr6
  have B6L := hid hl6
  clear U5 J5 A5 hu6 hr6 hl6
  go_wp2_with fail
  refine (low_row b m d ys w6 (HY.out.upd U6.out) HYL.out hm).mono ?_
  rintro e w7 ⟨l3, c7, rfl, hl7, hr7, hu7⟩
  have U7 := hid (U6.out.trans hu7 (by simp))
  have J7 := hid (J6.out.upd hu7)
  have A7 := hid (A6.out.upd hu7)
  have B7 := hid (B6.out.upd hu7)
  have C7 := hid hr7
  have C7L := hid hl7
  clear U6 J6 A6 B6 hu7 hr7 hl7
  go_wp2_with fail
  refine (join_row l2 n c6 (lowL xs) l3 m c7 (lowL ys) w7 B7.out B6L.out C7.out C7L.out (by omega) (by omega)).mono ?_
  rintro e w8 ⟨j8, jl8, jc8, rfl, hjl, hjm, hj, hu8⟩
  have U8 := hid (U7.out.trans hu8 (by simp))
  have J8 := hid (J7.out.upd hu8)
  have A8 := hid (A7.out.upd hu8)
  have D8 := hid hj
  have D8L := hid hjl
  have D8M := hid hjm
  clear U7 J7 A7 B7 C7 B6L C7L hu8 hj hjl hjm
  go_wp2_with fail
  refine (below_any l1 n c5 (lowL xs) j8 jl8 jc8 (joinL (lowL xs) (lowL ys)) w8 A8.out A5L.out D8.out D8L.out (by omega) (by have := D8M.out; omega)).mono ?_
  rintro e w9 ⟨rfl, rfl⟩
  rw [plain1]
  clear A8 D8 A5L D8L D8M
  go_wp2_with fail
  refine (join_row b m d ys a n c xs w9 (HY.out.upd U8.out) HYL.out (HX.out.upd U8.out) HXL.out (by omega) (by omega)).mono ?_
  rintro e w10 ⟨j10, jl10, jc10, rfl, hjl, hjm, hj, hu10⟩
  have U10 := hid (U8.out.trans hu10 (by simp))
  have J10 := hid (J8.out.upd hu10)
  have E10 := hid hj
  have E10L := hid hjl
  have E10M := hid hjm
  clear U8 J8 hu10 hj hjl hjm
  go_wp2_with fail
  refine (alike_any j jl jc (joinL xs ys) j10 jl10 jc10 (joinL ys xs) w10 J10.out JL.out E10.out E10L.out (by have := JM.out; omega) (by have := E10M.out; omega)).mono ?_
  rintro e w11 ⟨rfl, rfl⟩
  rw [plain2]
  clear E10 E10L E10M
  have tail : ∀ w12, w12 = w11 → Hid (Upd [] w w12 ∧ IntRow w12 j (joinL xs ys)) := by rintro _ rfl; exact ⟨U10.out, J10.out⟩
  clear U10 J10
  have hcs : Hid (belowL xs zs = false) ∨ (Hid (belowL xs zs = true) ∧ Hid (belowL ys zs = false)) ∨ (Hid (belowL xs zs = true) ∧ Hid (belowL ys zs = true) ∧ Hid (belowL (joinL xs ys) zs = true)) := by
    cases hp : belowL xs zs
    · exact .inl rfl
    · cases hq : belowL ys zs
      · exact .inr (.inl ⟨rfl, rfl⟩)
      · exact .inr (.inr ⟨rfl, rfl, plain3 xs ys zs hp hq⟩)
  rcases hcs with HP | ⟨HP, HQ⟩ | ⟨HP, HQ, HR⟩
  · have T11 := tail _ rfl
    clear tail
    go_wp2_with fail
    refine (below_any a n c xs g o k zs w11 (HX.out.upd T11.out.1) HXL.out (HZ.out.upd T11.out.1) HZL.out (by omega) (by omega)).mono ?_
    rintro e w12 ⟨rfl, rfl⟩
    rw [HP.out]
    clear HP
    go_wp2_with fail
    refine (join_row j jl jc (joinL xs ys) g o k zs _ T11.out.2 JL.out (HZ.out.upd T11.out.1) HZL.out (by have := JM.out; omega) (by omega)).mono ?_
    rintro e w20 ⟨j20, jl20, jc20, rfl, hjl, hjm, hj, hu20⟩
    have U20 := hid (T11.out.1.trans hu20 (by simp))
    have F20 := hid hj
    have F20L := hid hjl
    have F20M := hid hjm
    clear T11 hu20 hj hjl hjm
    go_wp2_with fail
    refine (join_row b m d ys g o k zs w20 (HY.out.upd U20.out) HYL.out (HZ.out.upd U20.out) HZL.out (by omega) (by omega)).mono ?_
    rintro e w21 ⟨j21, jl21, jc21, rfl, hjl, hjm, hj, hu21⟩
    have U21 := hid (U20.out.trans hu21 (by simp))
    have F21 := hid (F20.out.upd hu21)
    have G21 := hid hj
    have G21L := hid hjl
    have G21M := hid hjm
    clear U20 F20 hu21 hj hjl hjm
    go_wp2_with fail
    refine (join_row a n c xs j21 jl21 jc21 (joinL ys zs) w21 (HX.out.upd U21.out) HXL.out G21.out G21L.out (by omega) (by have := G21M.out; omega)).mono ?_
    rintro e w22 ⟨j22, jl22, jc22, rfl, hjl, hjm, hj, hu22⟩
    have U22 := hid (U21.out.trans hu22 (by simp))
    have F22 := hid (F21.out.upd hu22)
    have G22 := hid hj
    have G22L := hid hjl
    have G22M := hid hjm
    clear U21 F21 G21 hu22 hj hjl hjm
    go_wp2_with fail
    refine (alike_any j20 jl20 jc20 (joinL (joinL xs ys) zs) j22 jl22 jc22 (joinL xs (joinL ys zs)) w22 F22.out F20L.out G22.out G22L.out (by have := JM.out; have := F20M.out; omega) (by have := G21M.out; have := G22M.out; omega)).mono ?_
    rintro e w23 ⟨rfl, rfl⟩
    rw [plain4]
    go_wp2_with fail
    go_ret
    exact ⟨rfl, U22.out⟩
  · have T11 := tail _ rfl
    clear tail
    go_wp2_with fail
    refine (below_any a n c xs g o k zs w11 (HX.out.upd T11.out.1) HXL.out (HZ.out.upd T11.out.1) HZL.out (by omega) (by omega)).mono ?_
    rintro e w12 ⟨rfl, rfl⟩
    rw [HP.out]
    clear HP
    go_wp2_with fail
    refine (below_any b m d ys g o k zs w12 (HY.out.upd T11.out.1) HYL.out (HZ.out.upd T11.out.1) HZL.out (by omega) (by omega)).mono ?_
    rintro e w13 ⟨rfl, rfl⟩
    rw [HQ.out]
    clear HQ
    go_wp2_with fail
    refine (join_row j jl jc (joinL xs ys) g o k zs _ T11.out.2 JL.out (HZ.out.upd T11.out.1) HZL.out (by have := JM.out; omega) (by omega)).mono ?_
    rintro e w20 ⟨j20, jl20, jc20, rfl, hjl, hjm, hj, hu20⟩
    have U20 := hid (T11.out.1.trans hu20 (by simp))
    have F20 := hid hj
    have F20L := hid hjl
    have F20M := hid hjm
    clear T11 hu20 hj hjl hjm
    go_wp2_with fail
    refine (join_row b m d ys g o k zs w20 (HY.out.upd U20.out) HYL.out (HZ.out.upd U20.out) HZL.out (by omega) (by omega)).mono ?_
    rintro e w21 ⟨j21, jl21, jc21, rfl, hjl, hjm, hj, hu21⟩
    have U21 := hid (U20.out.trans hu21 (by simp))
    have F21 := hid (F20.out.upd hu21)
    have G21 := hid hj
    have G21L := hid hjl
    have G21M := hid hjm
    clear U20 F20 hu21 hj hjl hjm
    go_wp2_with fail
    refine (join_row a n c xs j21 jl21 jc21 (joinL ys zs) w21 (HX.out.upd U21.out) HXL.out G21.out G21L.out (by omega) (by have := G21M.out; omega)).mono ?_
    rintro e w22 ⟨j22, jl22, jc22, rfl, hjl, hjm, hj, hu22⟩
    have U22 := hid (U21.out.trans hu22 (by simp))
    have F22 := hid (F21.out.upd hu22)
    have G22 := hid hj
    have G22L := hid hjl
    have G22M := hid hjm
    clear U21 F21 G21 hu22 hj hjl hjm
    go_wp2_with fail
    refine (alike_any j20 jl20 jc20 (joinL (joinL xs ys) zs) j22 jl22 jc22 (joinL xs (joinL ys zs)) w22 F22.out F20L.out G22.out G22L.out (by have := JM.out; have := F20M.out; omega) (by have := G21M.out; have := G22M.out; omega)).mono ?_
    rintro e w23 ⟨rfl, rfl⟩
    rw [plain4]
    go_wp2_with fail
    go_ret
    exact ⟨rfl, U22.out⟩
  · have T11 := tail _ rfl
    clear tail
    go_wp2_with fail
    refine (below_any a n c xs g o k zs w11 (HX.out.upd T11.out.1) HXL.out (HZ.out.upd T11.out.1) HZL.out (by omega) (by omega)).mono ?_
    rintro e w12 ⟨rfl, rfl⟩
    rw [HP.out]
    clear HP
    go_wp2_with fail
    refine (below_any b m d ys g o k zs w12 (HY.out.upd T11.out.1) HYL.out (HZ.out.upd T11.out.1) HZL.out (by omega) (by omega)).mono ?_
    rintro e w13 ⟨rfl, rfl⟩
    rw [HQ.out]
    clear HQ
    go_wp2_with fail
    refine (below_any j jl jc (joinL xs ys) g o k zs w13 T11.out.2 JL.out (HZ.out.upd T11.out.1) HZL.out (by have := JM.out; omega) (by omega)).mono ?_
    rintro e w14 ⟨rfl, rfl⟩
    rw [HR.out]
    clear HR
    go_wp2_with fail
    refine (join_row j jl jc (joinL xs ys) g o k zs _ T11.out.2 JL.out (HZ.out.upd T11.out.1) HZL.out (by have := JM.out; omega) (by omega)).mono ?_
    rintro e w20 ⟨j20, jl20, jc20, rfl, hjl, hjm, hj, hu20⟩
    have U20 := hid (T11.out.1.trans hu20 (by simp))
    have F20 := hid hj
    have F20L := hid hjl
    have F20M := hid hjm
    clear T11 hu20 hj hjl hjm
    go_wp2_with fail
    refine (join_row b m d ys g o k zs w20 (HY.out.upd U20.out) HYL.out (HZ.out.upd U20.out) HZL.out (by omega) (by omega)).mono ?_
    rintro e w21 ⟨j21, jl21, jc21, rfl, hjl, hjm, hj, hu21⟩
    have U21 := hid (U20.out.trans hu21 (by simp))
    have F21 := hid (F20.out.upd hu21)
    have G21 := hid hj
    have G21L := hid hjl
    have G21M := hid hjm
    clear U20 F20 hu21 hj hjl hjm
    go_wp2_with fail
    refine (join_row a n c xs j21 jl21 jc21 (joinL ys zs) w21 (HX.out.upd U21.out) HXL.out G21.out G21L.out (by omega) (by have := G21M.out; omega)).mono ?_
    rintro e w22 ⟨j22, jl22, jc22, rfl, hjl, hjm, hj, hu22⟩
    have U22 := hid (U21.out.trans hu22 (by simp))
    have F22 := hid (F21.out.upd hu22)
    have G22 := hid hj
    have G22L := hid hjl
    have G22M := hid hjm
    clear U21 F21 G21 hu22 hj hjl hjm
    go_wp2_with fail
    refine (alike_any j20 jl20 jc20 (joinL (joinL xs ys) zs) j22 jl22 jc22 (joinL xs (joinL ys zs)) w22 F22.out F20L.out G22.out G22L.out (by have := JM.out; have := F20M.out; omega) (by have := G21M.out; have := G22M.out; omega)).mono ?_
    rintro e w23 ⟨rfl, rfl⟩
    rw [plain4]
    go_wp2_with fail
    go_ret
    exact ⟨rfl, U22.out⟩
end Go.Proofs.Ytmdhhembkmkfdaa.CJ
