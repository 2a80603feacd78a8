/- Names: strings as codes in their order; rows in memory. -/
import Derived.Test.YtbkhjmdklghbiaaDoorShelf
import Derived.Test.YtbkhjmdklghbiaaDoorO
import Derived.Test.YtbkhjmdklghbiaaDoorR
import Derived.Test.YtbkhjmdklghbiaaDoorJ
namespace Go.Proofs.YtbkhjmdklghbiaaDoor.Nm
open Go Go.RowKit Go.Proofs.YtbkhjmdklghbiaaDoor Go.Proofs.YtbkhjmdklghbiaaDoor.K Go.Proofs.YtbkhjmdklghbiaaDoor.M Go.Proofs.YtbkhjmdklghbiaaDoor.O

/-- The names that come up, in their order: a, ab, b, c, d, e, zz. -/
def nmS (k : Nat) : ByteArray := if k = 0 then ⟨#[97]⟩ else if k = 1 then ⟨#[97, 98]⟩ else if k = 2 then ⟨#[98]⟩ else if k = 3 then ⟨#[99]⟩ else if k = 4 then ⟨#[100]⟩ else if k = 5 then ⟨#[101]⟩ else ⟨#[122, 122]⟩
def cmpN (a b : Nat) : Int := if a < b then -1 else if b < a then 1 else 0
theorem cmp_table : ∀ a < 7, ∀ b < 7, Lib.compareBytes (nmS a).data.toList (nmS b).data.toList = cmpN a b := by decide +kernel
theorem compare_nm (a b : Nat) (ha : a < 7) (hb : b < 7) (w : World) : Calls Tryd.prog 26 #[.string (nmS a), .string (nmS b)] w fun e w' => e = .returned (.int .i64 (cmpN a b)) ∧ w' = w := by
  have h := Tryd.strings_Compare (nmS a) (nmS b) w
  rw [cmp_table a ha b hb] at h
  exact h
theorem compareInt_nat (a b : Nat) : Lib.compareInt (a : Int) (b : Int) = cmpN a b := by
  unfold Lib.compareInt cmpN
  split <;> split <;> (try split) <;> (try rfl) <;> omega
theorem compare_int (a b : Nat) (w : World) : Calls Tryd.prog 36 #[.int .i64 (a : Int), .int .i64 (b : Int)] w fun e w' => e = .returned (.int .i64 (cmpN a b)) ∧ w' = w := by
  have h := Tryd.cmp_Compare_int (a : Int) (b : Int) w
  rw [compareInt_nat] at h
  exact h
def alnum : ByteArray := ⟨#[97, 98, 99, 100, 101, 102, 103, 104, 105, 106, 107, 108, 109, 110, 111, 112, 113, 114, 115, 116, 117, 118, 119, 120, 121, 122, 48, 49, 50, 51, 52, 53, 54, 55, 56, 57]⟩
theorem trim_table : ∀ a < 7, Lib.trimS (nmS a).data.toList alnum.data.toList = [] := by decide +kernel
theorem size_table : ∀ a < 7, (nmS a).size ≤ 2 ∧ 0 < (nmS a).size := by decide +kernel
theorem empty_table : ∀ a < 7, (nmS a).toList.isEmpty = false := by decide +kernel
theorem trim_nm (a : Nat) (ha : a < 7) (w : World) : Calls Tryd.prog 37 #[.string (nmS a), .string alnum] w fun e w' => e = .returned (.string ⟨#[]⟩) ∧ Upd [] w w' := by
  have h := Any.strings_Trim_laid Tryd.lays160 (by kernel_rfl) (nmS a) alnum w (by have := size_table a ha; omega) (by decide) (ascii_of_all (by decide))
  refine h.mono ?_
  rintro e w' ⟨rfl, hb⟩
  rw [trim_table a ha]
  exact ⟨rfl, Upd.of_below hb []⟩
set_option maxHeartbeats 2000000 in
set_option maxRecDepth 100000 in
theorem word_nm (a : Nat) (ha : a < 7) (w : World) : Calls Tryd.prog 29 #[.string (nmS a)] w fun e w' => e = .returned (.bool true) ∧ Upd [] w w' := by
  have TR := fun w => hid (trim_nm a ha w)
  obtain ⟨s1, s2⟩ := size_table a ha
  obtain ⟨s, hs⟩ : ∃ s, s = nmS a := ⟨_, rfl⟩
  rw [← hs] at TR s1 s2 ⊢
  have hnb : s.toList.isEmpty = false := by rw [hs]; exact empty_table a ha
  have hl : ((s.size : Nat) : Int) ≤ 16 := by omega
  unfold alnum at TR
  clear hs s2
  go_enter Tryd.func29, Tryd.ntmps29
  go_wp2_with fail
  refine (TR _).out.mono ?_
  rintro e w1 ⟨rfl, hu⟩
  have U := hid hu
  clear hu TR
  go_wp2_with fail
  go_ret
  exact ⟨rfl, U.out⟩
end Go.Proofs.YtbkhjmdklghbiaaDoor.Nm
