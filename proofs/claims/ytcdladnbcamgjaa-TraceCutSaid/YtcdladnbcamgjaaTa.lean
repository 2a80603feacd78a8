/- The walk of trace.take: a number off the front of bytes. -/
import Derived.Test.YtcdladnbcamgjaaTk
namespace Go.Proofs.Ytcdladnbcamgjaa.Ta
open Go Go.RowKit Go.Proofs.Ytcdladnbcamgjaa.K Go.Proofs.Ytcdladnbcamgjaa.M Go.Proofs.Ytcdladnbcamgjaa.Ev Go.Proofs.Ytcdladnbcamgjaa.Ck Go.Proofs.Ytcdladnbcamgjaa.O Go.Proofs.Ytcdladnbcamgjaa.Th Go.Proofs.Ytcdladnbcamgjaa.By Go.Proofs.Ytcdladnbcamgjaa.Tk

/-- Where the loop stands. -/
def At3 (i n u : Nat) : Prop := (i = 0 ∧ n = 0 ∧ u = 1) ∨ (i = 1 ∧ n < 128 ∧ u = 128) ∨ (i = 2 ∧ n < 16384 ∧ u = 16384) ∨ (i = 3 ∧ n < 2097152 ∧ u = 2097152)

theorem num1 {i m u c : Nat} (h : At3 i m u) (h3 : i ≠ 3) (hc : c < 128) : wrap64 ((m : Int) + wrap64 ((u : Int) * (c : Int))) = ((m + u * c : Nat) : Int) ∧ m + u * c ≤ 2097151 := by
  rcases h with ⟨rfl, rfl, rfl⟩ | ⟨rfl, hm, rfl⟩ | ⟨rfl, hm, rfl⟩ | ⟨rfl, hm, rfl⟩ <;> unfold wrap64 <;> omega
theorem num2 {i m u c : Nat} (h : At3 i m u) (h3 : i ≠ 3) (hc : c < 256) (hb : 128 ≤ c) : wrap64 ((m : Int) + wrap64 ((u : Int) * ((c : Int) - 128))) = ((m + u * (c - 128) : Nat) : Int) ∧ wrap64 ((u : Int) * 128) = ((u * 128 : Nat) : Int) ∧ At3 (i + 1) (m + u * (c - 128)) (u * 128) := by
  have e : (c : Int) - 128 = ((c - 128 : Nat) : Int) := by omega
  rw [e]
  obtain ⟨d, hd⟩ : ∃ d, d = c - 128 := ⟨_, rfl⟩
  rw [← hd]
  unfold At3
  rcases h with ⟨rfl, rfl, rfl⟩ | ⟨rfl, hm, rfl⟩ | ⟨rfl, hm, rfl⟩ | ⟨rfl, hm, rfl⟩ <;> unfold wrap64 <;> omega

/-- What it answers. -/
def Took (xs : List Nat) (x : Nat) (r : List Nat) (ok : Bool) : Prop := (ok = false ∧ tk xs = none ∧ r = []) ∨ (ok = true ∧ tk xs = some (x, r))
theorem drop_cons' {xs : List Nat} {i : Nat} (h : i < xs.length) : xs.drop i = xs.getD i 0 :: xs.drop (i + 1) := by
  rw [List.drop_eq_getElem_cons h]; congr 1; simp [List.getD_eq_getElem?_getD, h]
theorem add_add (a : Addr) (m n : Nat) : (a.add m).add n = a.add (m + n) := by
  unfold Addr.add; split <;> split <;> simp_all <;> omega
theorem row_drop {w : World} {a : Addr} {xs : List Nat} (h : ByRow w (some a) xs) (i : Nat) : ByRow w (some (a.add i)) (xs.drop i) := fun j hj => by
  obtain ⟨x, e, hc⟩ := h (i + j) (by simp at hj; omega)
  cases e
  refine ⟨_, rfl, ?_⟩
  rw [add_add]
  rw [hc]
  simp [List.getD_eq_getElem?_getD]

theorem row_drew {w : World} {a : Option Addr} {xs : List Nat} (h : ByRow w a xs) : ByRow w.drew a xs := h.upd (Upd.refl [] w).drew
theorem tail_row {w : World} {g : Addr} {xs : List Nat} {n cap i : Nat} (h : ByRow w (some g) xs) (hl : xs.length = n) (hlc : n ≤ cap) : ByRow w (if cap = i + 1 then some g else some { block := g.block, off := g.off + (i + 1) }) (xs.drop (i + 1)) := by
  split
  · intro j hj; simp at hj; omega
  · have e : (some { block := g.block, off := g.off + (i + 1) } : Option Addr) = some (g.add (i + 1)) := by simp [Addr.add]
    rw [e]; exact row_drop h (i + 1)

theorem ret3 {x x' : Int} {k k' : Nat} {a : Option Addr} {c : Nat} {b : Bool} (h : x = x') (hk : k = k') : Ending.returned (.tuple #[.int .i64 x, .slice a k c, .bool b]) = Ending.returned (.tuple #[.int .i64 x', .slice a k' c, .bool b]) := by rw [h, hk]
set_option maxHeartbeats 4000000 in
set_option maxRecDepth 100000 in
theorem take_any (a : Option Addr) (n cap : Nat) (xs : List Nat) (w0 w : World) (u0 : Upd [] w0 w) (hx : ByRow w0 a xs) (hl : xs.length = n) (hlc : n ≤ cap) (hc : cap ≤ 9223372036854775807) (h256 : ∀ x ∈ xs, x < 256) (hn : n ≤ 10000) :
    Calls Try.prog 70 #[.slice a n cap] w fun e w' => ∃ (x : Nat) (a' : Option Addr) (c' : Nat) (r : List Nat) (ok : Bool), e = .returned (.tuple #[.int .i64 (x : Int), .slice a' r.length c', .bool ok]) ∧ Hid (ByRow w0 a' r) ∧ r.length ≤ c' ∧ c' ≤ 9223372036854775807 ∧ x ≤ 2097151 ∧ Upd [] w w' ∧ Hid (Took xs x r ok) := by
  have HX := hid hx
  have HU0 := hid u0
  have HL := hid hl
  have H2 := hid h256
  clear hx hl h256 u0
  go_enter Try.func70, Try.ntmps70
  go_wp2_with fail
  go_loopg [5, 6, 11] n (fun d v5 v6 v11 wr => ∃ (i m u : Nat), v5 = .int .i64 (m : Int) ∧ v6 = .int .i64 (u : Int) ∧ v11 = .int .i64 (i : Int) ∧ i ≤ n ∧ At3 i m u ∧ Hid (i + d = n) ∧ Hid (tk xs = takeG i m u (xs.drop i)) ∧ Hid (Upd [] w wr))
  case atStart => exact ⟨0, 0, 1, rfl, rfl, rfl, by omega, .inl ⟨rfl, rfl, rfl⟩, by show _ = _; omega, by show _ = _; rfl, Upd.refl _ _⟩
  case round =>
    obtain ⟨i, m, u, rfl, rfl, rfl, hin, hA, Hi, HT, Hu⟩ := hrel
    by_cases hi : i < n
    · have hi' : (i : Int) < (n : Int) := by omega
      have hil := hid (show i < xs.length by rw [HL.out]; exact hi)
      obtain ⟨g, rfl, c0⟩ := (HX.out.upd HU0.out).upd Hu.out i hil.out
      obtain ⟨c, hcc⟩ : ∃ c, c = xs.getD i 0 := ⟨_, rfl⟩
      rw [← hcc] at c0
      have hc2 : c < 256 := by rw [hcc]; exact H2.out _ (by simp [List.getD_eq_getElem?_getD, hil.out])
      have hd : Hid (xs.drop i = c :: xs.drop (i + 1)) := by rw [hcc]; exact drop_cons' hil.out
      have HTT := HT.out
      rw [hd.out] at HTT
      unfold takeG at HTT
      have HT2 := hid HTT
      clear HTT hcc
      by_cases h3 : i = 3
      · have b1 : ((i : Int) == 3) = true := by rw [beq_iff_eq]; omega
        have H3 := hid h3
        clear h3
        go_wp2_with fail
        go_ret3
        refine ⟨0, none, 0, [], false, rfl, hid (fun j hj => absurd hj (Nat.not_lt_zero j)), Nat.le_refl _, by decide, by decide, Hu.out, hid (.inl ⟨rfl, ?_, rfl⟩)⟩
        have := HT2.out; rw [if_pos (.inl H3.out)] at this; exact this
      · have b1 : ((i : Int) == 3) = false := by rw [beq_eq_false_iff_ne]; omega
        by_cases h0 : 0 < i ∧ c = 0
        · obtain ⟨h0, hc0⟩ := h0
          have h0' : 0 < (i : Int) := by omega
          have b3 : ((c : Int) == 0) = true := by rw [beq_iff_eq]; omega
          have H0 := hid hc0
          clear hc0 h3
          go_wp2_with fail
          go_ret3
          refine ⟨0, none, 0, [], false, rfl, hid (fun j hj => absurd hj (Nat.not_lt_zero j)), Nat.le_refl _, by decide, by decide, Hu.out, hid (.inl ⟨rfl, ?_, rfl⟩)⟩
          have := HT2.out; rw [if_pos (.inr ⟨h0, H0.out⟩)] at this; exact this
        · have HT3 : Hid (tk xs = _) := HT2.out.trans (if_neg (by omega))
          by_cases h1 : c < 128
          · have h1' : (c : Int) < 128 := by omega
            have HT4 : Hid (tk xs = some (m + u * c, xs.drop (i + 1))) := HT3.out.trans (if_pos h1)
            have HN := hid (num1 hA h3 h1)
            have s1 : (i : Int) + 1 ≤ (n : Int) := by omega
            have s0 : 0 ≤ (i : Int) + 1 := by omega
            have s2 : (n : Int) ≤ (cap : Int) := by omega
            have hlen : Hid (((n : Int) - ((i : Int) + 1)).toNat = (xs.drop (i + 1)).length) := by show _ = _; rw [List.length_drop, HL.out]; omega
            by_cases h00 : 0 < i
            · have h00' : 0 < (i : Int) := by omega
              have b3 : ((c : Int) == 0) = false := by rw [beq_eq_false_iff_ne]; omega
              clear h0
              go_wp2_with fail
              go_region
              have TA : Hid (ByRow w0 _ _) := tail_row (i := i) HX.out HL.out hlc
              generalize (if cap = i + 1 then some g else some { block := g.block, off := g.off + (i + 1) } : Option Addr) = A at TA ⊢
              go_wp2_with fail
              go_ret3
              exact ⟨m + u * c, A, cap - (i + 1), xs.drop (i + 1), true, ret3 HN.out.1 (by rw [List.length_drop, HL.out]), TA, by rw [List.length_drop, HL.out]; omega, by omega, HN.out.2, Hu.out.drew, hid (.inr ⟨rfl, HT4.out⟩)⟩
            · have h00' : ¬ 0 < (i : Int) := by omega
              clear h0
              go_wp2_with fail
              go_region
              have TA : Hid (ByRow w0 _ _) := tail_row (i := i) HX.out HL.out hlc
              generalize (if cap = i + 1 then some g else some { block := g.block, off := g.off + (i + 1) } : Option Addr) = A at TA ⊢
              go_wp2_with fail
              go_ret3
              exact ⟨m + u * c, A, cap - (i + 1), xs.drop (i + 1), true, ret3 HN.out.1 (by rw [List.length_drop, HL.out]), TA, by rw [List.length_drop, HL.out]; omega, by omega, HN.out.2, Hu.out.drew, hid (.inr ⟨rfl, HT4.out⟩)⟩
          · have h1' : ¬ (c : Int) < 128 := by omega
            have HT4 : Hid (tk xs = takeG (i + 1) (m + u * (c - 128)) (u * 128) (xs.drop (i + 1))) := HT3.out.trans (if_neg h1)
            have HN := hid (num2 hA h3 hc2 (by omega))
            by_cases h00 : 0 < i
            · have h00' : 0 < (i : Int) := by omega
              have b3 : ((c : Int) == 0) = false := by rw [beq_eq_false_iff_ne]; omega
              clear h0
              go_wp2_with fail
              go_roundg (n - (i + 1))
              case measure => have := Hi.out; omega
              case rel => exact ⟨i + 1, _, _, by rw [HN.out.1], by rw [HN.out.2.1], by go_num, by omega, HN.out.2.2, by show _ = _; omega, HT4.out, Hu.out⟩
            · have h00' : ¬ 0 < (i : Int) := by omega
              clear h0
              go_wp2_with fail
              go_roundg (n - (i + 1))
              case measure => have := Hi.out; omega
              case rel => exact ⟨i + 1, _, _, by rw [HN.out.1], by rw [HN.out.2.1], by go_num, by omega, HN.out.2.2, by show _ = _; omega, HT4.out, Hu.out⟩
    · obtain rfl : i = n := by omega
      go_wp2_with fail
      go_ret3
      refine ⟨0, none, 0, [], false, rfl, hid (fun j hj => absurd hj (Nat.not_lt_zero j)), Nat.le_refl _, by decide, by decide, Hu.out, hid (.inl ⟨rfl, ?_, rfl⟩)⟩
      rw [HT.out, List.drop_of_length_le (by rw [HL.out]; exact Nat.le_refl _)]; rfl
end Go.Proofs.Ytcdladnbcamgjaa.Ta
