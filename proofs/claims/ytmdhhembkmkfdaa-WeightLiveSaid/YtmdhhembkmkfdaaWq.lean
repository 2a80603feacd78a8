/- A world of weights: the function sum. -/
import Derived.Test.YtmdhhembkmkfdaaWp
namespace Go.Proofs.Ytmdhhembkmkfdaa.Wt
open Go Go.RowKit Go.Proofs.Ytmdhhembkmkfdaa.K Go.Proofs.Ytmdhhembkmkfdaa.M Go.Proofs.Ytmdhhembkmkfdaa.O

def psum (f : Nat → Nat) : Nat → Nat
  | 0 => 0
  | n + 1 => psum f n + f n
theorem wsum_take (t : Nat) : ∀ (l : List Way) (i : Nat), i < l.length → wsum t (l.take (i + 1)) = wsum t (l.take i) + (if (l.getD i noWay).thing = t then (l.getD i noWay).wt else 0)
  | [], i, h => by simp at h
  | y :: l, 0, _ => by simp [wsum]
  | y :: l, i + 1, h => by
    have ih := wsum_take t l i (by simpa using h)
    simp only [List.take_succ_cons, wsum, List.getD_cons_succ]
    rw [ih]; omega
theorem wsum_take_le (t : Nat) (l : List Way) : ∀ i, wsum t (l.take i) ≤ wsum t l := by
  induction l with
  | nil => intro i; simp
  | cons y l ih =>
    intro i
    cases i with
    | zero => simp [wsum]
    | succ i => simp only [List.take_succ_cons, wsum]; have := ih i; omega

set_option maxHeartbeats 4000000 in
set_option maxRecDepth 100000 in
theorem sum_any {w : World} {B g : Nat} {s : Wd} {v1 v2 v3 : Value} {bs : List Nat} (h1 : IsW w B g s v1 v2 v3 bs) (h2 : WI s) (t : Nat) (ht : t < s.things.length) :
    Calls Try.prog 53 #[.pointer (some ⟨g, 0, none⟩), .int .i64 (t : Int)] w fun e w' => ∃ A K : Nat, e = .returned (.tuple #[.int .i64 (A : Int), .int .i64 (K : Int)]) ∧ A + K = (s.things.getD t noThing).out ∧ Upd [] w w' := by
  have HH : Hid (∀ n, n < 3 → hasR s n t = s.has n t) := hid (fun n hn => by
    unfold hasR chk
    rw [if_pos (show n < s.nodes ∧ t < s.things.length from ⟨by rw [h2.nodes]; exact hn, ht⟩)]
    by_cases z : s.has n t = 0
    · rw [if_pos z]; simp [z]
    · rw [if_neg z, if_pos rfl])
  have HS := hid (h2.sum t ht)
  have HT := hid (h2.top t ht)
  have HL := hid h2.short
  have LE : Hid (∀ n, n < 3 → s.has n t ≤ 65536) := hid (fun n hn => h2.le hn ht)
  have H1 := hid h1
  obtain ⟨f, hf⟩ : ∃ f : Nat → Nat, f = fun n => s.has n t := ⟨_, rfl⟩
  have HF := hid hf
  have P3 : Hid (psum f 3 = s.has 0 t + s.has 1 t + s.has 2 t) := hid (by rw [hf]; simp [psum])
  clear h1 h2 ht hf
  go_enter Try.func53, Try.ntmps53
  go_wp2_with fail
  go_loopg [6, 13] 3 (fun d v6 v13 wr => ∃ (i A : Nat), v6 = .int .i64 (A : Int) ∧ v13 = .int .i64 (i : Int) ∧ i ≤ 3 ∧ A ≤ i * 65536 ∧ Hid (i + d = 3) ∧ Hid (A = psum f i) ∧ wr = w)
  case atStart => exact ⟨0, 0, rfl, rfl, by omega, by omega, hid (by omega), hid rfl, rfl⟩
  case round =>
    obtain ⟨i, A, rfl, rfl, hi, hA, Hd, HA, rfl⟩ := hrel
    by_cases hi3 : i < 3
    · have hi' : (i : Int) < 3 := by omega
      go_wp2_with fail
      refine (has_any H1.out i t).mono ?_
      rintro e w' ⟨rfl, rfl⟩
      rw [HH.out i hi3]
      obtain ⟨k, hk⟩ : ∃ k, k = s.has i t := ⟨_, rfl⟩
      have hk2 : k ≤ 65536 := by rw [hk]; exact LE.out i hi3
      rw [← hk]
      have HK := hid hk
      clear hk
      go_wp2_with fail
      go_roundg (3 - (i + 1))
      case measure => have := Hd.out; omega
      case rel => exact ⟨i + 1, A + k, by go_num, by go_num, by omega, by omega, hid (by omega), hid (by show _ = psum f i + f i; rw [← HA.out, HF.out, HK.out]), rfl⟩
    · obtain rfl : i = 3 := by omega
      go_wp2_with fail
      refine (under_any H1.out HL.out).mono ?_
      rintro e w1 ⟨v', rfl, ho, hu⟩
      have HU := hid hu
      obtain ⟨p, hp⟩ : ∃ p, p = s.way.length := ⟨_, rfl⟩
      rw [← hp] at ho
      obtain ⟨a, c, e, h3, h4, h5⟩ := own_view ho
      subst e
      have HC := hid h5
      have HP := hid hp
      have hp60 : p ≤ 60 := by rw [hp]; exact HL.out
      have HA3 : Hid (A = s.has 0 t + s.has 1 t + s.has 2 t) := hid (HA.out.trans P3.out)
      clear ho hu hp h5
      go_wp2_with fail
      go_loopg [6, 7, 30] p (fun d v6 v7 v30 wr => ∃ (i X K : Nat), v6 = .int .i64 (X : Int) ∧ v7 = .int .i64 (K : Int) ∧ v30 = .int .i64 (i : Int) ∧ i ≤ p ∧ Hid (i + d = p) ∧ Hid (X + K = A + wsum t (s.way.take i)) ∧ Hid (Upd [] w1 wr))
      case atStart => exact ⟨0, A, 0, rfl, rfl, rfl, by omega, hid (by omega), hid (by simp [wsum]), hid (Upd.refl _ _)⟩
      case round =>
        obtain ⟨j, X, K, rfl, rfl, rfl, hj, Hd2, HX, Hu⟩ := hrel
        by_cases hjp : j < p
        · have hjw : j < s.way.length := by rw [← HP.out]; exact hjp
          obtain ⟨q0, q1, q2, q3⟩ := wayCells_get s.way j hjw
          obtain ⟨g', e', -, d0, -⟩ := HC.out _ _ q0
          obtain ⟨g'', e'', -, d1, -⟩ := HC.out _ _ q1
          cases e'
          cases e''
          obtain ⟨g'', e'', -, d2, -⟩ := HC.out _ _ q2
          cases e''
          obtain ⟨g'', e'', -, d3, -⟩ := HC.out _ _ q3
          cases e''
          replace d0 := Hu.out.cell d0 (by simp)
          replace d1 := Hu.out.cell d1 (by simp)
          replace d2 := Hu.out.cell d2 (by simp)
          replace d3 := Hu.out.cell d3 (by simp)
          have hw := wsum_take t s.way j hjw
          have hle := wsum_take_le t s.way (j + 1)
          have hb : X + K + (if (s.way.getD j noWay).thing = t then (s.way.getD j noWay).wt else 0) ≤ 65536 := by
            have z1 := HX.out
            have z2 := HS.out
            have z3 := HT.out
            have z4 := HA3.out
            omega
          obtain ⟨x0, hx0⟩ : ∃ x, x = (s.way.getD j noWay).to := ⟨_, rfl⟩
          obtain ⟨x1, hx1⟩ : ∃ x, x = (s.way.getD j noWay).thing := ⟨_, rfl⟩
          obtain ⟨x2, hx2⟩ : ∃ x, x = (s.way.getD j noWay).wt := ⟨_, rfl⟩
          obtain ⟨x3, hx3⟩ : ∃ x, x = (s.way.getD j noWay).back := ⟨_, rfl⟩
          rw [← hx0] at d0
          rw [← hx1] at d1 hw hb
          rw [← hx2] at d2 hw hb
          rw [← hx3] at d3
          have HW := hid hw
          clear q0 q1 q2 q3 hx0 hx1 hx2 hx3 hw hle hjw
          have hj' : (j : Int) < (p : Int) := by omega
          by_cases ht : x1 = t
          · subst ht
            rw [if_pos rfl] at hb
            have HW' := hid (HW.out.trans (by rw [if_pos rfl]))
            cases x3 with
            | true =>
              go_wp2_with fail
              go_roundg (p - (j + 1))
              case measure => have := Hd2.out; omega
              case rel => exact ⟨j + 1, X, K + x2, rfl, by go_num, by go_num, by omega, hid (by omega), hid (by have z1 := HX.out; have z2 := HW'.out; omega), hid (Hu.out.alloc _)⟩
            | false =>
              go_wp2_with fail
              go_roundg (p - (j + 1))
              case measure => have := Hd2.out; omega
              case rel => exact ⟨j + 1, X + x2, K, by go_num, rfl, by go_num, by omega, hid (by omega), hid (by have z1 := HX.out; have z2 := HW'.out; omega), hid (Hu.out.alloc _)⟩
          · have ht' : ((x1 : Int) == (t : Int)) = false := by rw [beq_eq_false_iff_ne]; omega
            rw [if_neg ht] at hb
            have HW' := hid (HW.out.trans (by rw [if_neg ht]))
            go_wp2_with fail
            go_roundg (p - (j + 1))
            case measure => have := Hd2.out; omega
            case rel => exact ⟨j + 1, X, K, rfl, rfl, by go_num, by omega, hid (by omega), hid (by have z1 := HX.out; have z2 := HW'.out; omega), hid (Hu.out.alloc _)⟩
        · obtain rfl : j = p := by omega
          go_wp2_with fail
          go_ret2
          refine ⟨X, K, rfl, ?_, HU.out.trans Hu.out (fun t ht => by cases ht)⟩
          rw [HX.out, HS.out, HA3.out, HP.out, List.take_length]
end Go.Proofs.Ytmdhhembkmkfdaa.Wt
