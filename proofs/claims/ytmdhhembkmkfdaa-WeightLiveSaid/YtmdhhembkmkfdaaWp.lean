/- A world of weights, played: contracts in one bundle; the function weights. -/
import Derived.Test.YtmdhhembkmkfdaaWi
namespace Go.Proofs.Ytmdhhembkmkfdaa.Wt
open Go Go.RowKit Go.Proofs.Ytmdhhembkmkfdaa.K Go.Proofs.Ytmdhhembkmkfdaa.M Go.Proofs.Ytmdhhembkmkfdaa.O Go.Proofs.Ytmdhhembkmkfdaa.R

/-- A world in which no weight is lost lies behind the pointer to g; φ holds of it. -/
def PW (B g : Nat) (v2 : Value) (bs : List Nat) (φ : Wd → Prop) (w : World) : Prop := ∃ s v1 v3, IsW w B g s v1 v2 v3 bs ∧ WI s ∧ φ s
section
variable {B g : Nat} {v2 : Value} {bs : List Nat} {w : World}
theorem PW.upd {φ : Wd → Prop} {w' : World} (h : PW B g v2 bs φ w) (u : Upd [] w w') : PW B g v2 bs φ w' :=
  let ⟨s, v1, v3, h1, h2, h3⟩ := h; ⟨s, v1, v3, h1.upd u, h2, h3⟩
def Made (m : Nat) (s : Wd) : Prop := s.things.length = m
theorem p_make_yes {m n : Nat} (h : PW B g v2 bs (Made m) w) (hn : n < 3) (hm : m < 20) :
    Calls Try.prog 46 #[.pointer (some ⟨g, 0, none⟩), .int .i64 (n : Int)] w fun e w' => e = .returned (.tuple #[.int .i64 (m : Int), .int .i64 0]) ∧ PW B g v2 bs (Made (m + 1)) w' ∧ Old B w w' := by
  obtain ⟨s, v1, v3, h1, h2, h3⟩ := h
  have h3' : s.things.length = m := h3
  refine (make_yes h1 n (by rw [h2.nodes]; exact hn) (by omega)).mono ?_
  rintro e w' ⟨rfl, ⟨v1', hi⟩, ho⟩
  exact ⟨by rw [h3'], ⟨_, v1', v3, hi, h2.made hn (by omega), by show (s.things ++ _).length = _; simp [h3']⟩, ho⟩
theorem p_make_no {n : Nat} (h : PW B g v2 bs (Made 20) w) (hn : n < 3) :
    Calls Try.prog 46 #[.pointer (some ⟨g, 0, none⟩), .int .i64 (n : Int)] w fun e w' => e = .returned (.tuple #[.int .i64 0, .int .i64 6]) ∧ w' = w := by
  obtain ⟨s, v1, v3, h1, h2, h3⟩ := h
  exact make_no h1 n (by rw [h2.nodes]; exact hn) h3
theorem p_send {m n t d : Nat} (h : PW B g v2 bs (Made m) w) (hd : d < 3) :
    Calls Try.prog 48 #[.pointer (some ⟨g, 0, none⟩), .int .i64 (n : Int), .int .i64 (t : Int), .int .i64 (d : Int)] w fun e w' => (∃ c : Int, e = .returned (.int .i64 c)) ∧ PW B g v2 bs (Made m) w' ∧ Old B w w' := by
  obtain ⟨s, v1, v3, h1, h2, h3⟩ := h
  by_cases hy : chk s n t = 0 ∧ d ≠ n ∧ s.way.length < 60 ∧ s.has n t ≠ 1
  · obtain ⟨y1, y2, y3, y4⟩ := hy
    obtain ⟨hn, ht, -⟩ := chk_zero y1
    refine (send_yes h1 n t d y1 (by rw [h2.nodes]; exact hd) y2 y3 y4 (h2.le (by rw [h2.nodes] at hn; exact hn) ht)).mono ?_
    rintro e w' ⟨rfl, ⟨v3', hi⟩, ho⟩
    exact ⟨⟨0, rfl⟩, ⟨_, v1, v3', hi, h2.sent y1 hd y3, h3⟩, ho⟩
  · refine (send_no h1 n t d (by rw [h2.nodes]; exact hd) h2.short hy).mono ?_
    rintro e w' ⟨⟨c, rfl⟩, rfl⟩
    exact ⟨⟨c, rfl⟩, ⟨s, v1, v3, h1, h2, h3⟩, Old.refl _ _⟩
theorem p_drop {m n t : Nat} (h : PW B g v2 bs (Made m) w) :
    Calls Try.prog 50 #[.pointer (some ⟨g, 0, none⟩), .int .i64 (n : Int), .int .i64 (t : Int)] w fun e w' => (∃ c : Int, e = .returned (.int .i64 c)) ∧ PW B g v2 bs (Made m) w' ∧ Old B w w' := by
  obtain ⟨s, v1, v3, h1, h2, h3⟩ := h
  by_cases hy : chk s n t = 0 ∧ s.way.length < 60
  · refine (drop_yes h1 n t hy.1 hy.2).mono ?_
    rintro e w' ⟨rfl, ⟨v3', hi⟩, ho⟩
    exact ⟨⟨0, rfl⟩, ⟨_, v1, v3', hi, h2.dropped hy.1 hy.2, h3⟩, ho⟩
  · refine (drop_no h1 n t h2.short hy).mono ?_
    rintro e w' ⟨⟨c, rfl, -⟩, rfl⟩
    exact ⟨⟨c, rfl⟩, ⟨s, v1, v3, h1, h2, h3⟩, Old.refl _ _⟩
/-- What is under way at place i comes. -/
theorem come_yes {s : Wd} {v1 v3 : Value} (h1 : IsW w B g s v1 v2 v3 bs) (h2 : WI s) {i : Nat} (hi : i < s.way.length) :
    Calls Try.prog 49 #[.pointer (some ⟨g, 0, none⟩), .int .i64 (i : Int)] w fun e w' => e = .returned (.int .i64 0) ∧ (∃ s' v1' v3', IsW w' B g s' v1' v2 v3' bs ∧ WI s' ∧ s'.things.length = s.things.length ∧ s'.way = s.way.eraseIdx i ∧ ((s.way.getD i noWay).back = true → s'.has = s.has)) ∧ Old B w w' := by
  match hx : s.way.getD i noWay with
  | ⟨d, th, wt, false⟩ =>
    obtain ⟨k1, k2, k3⟩ := h2.comeTo hi hx
    refine (come_to h1 i hi h2.short d th wt hx (by rw [h2.nodes]; exact k1) k2).mono ?_
    rintro e w' ⟨rfl, ⟨v3', hw⟩, ho⟩
    exact ⟨rfl, ⟨_, v1, v3', hw, k3, rfl, rfl, fun e => by cases e⟩, ho⟩
  | ⟨d, th, wt, true⟩ =>
    obtain ⟨k0, k1, k2, k3⟩ := h2.comeBack hi hx
    refine (come_back h1 i hi h2.short d th wt hx k0 k1 k2).mono ?_
    rintro e w' ⟨rfl, ⟨v3', hw⟩, ho⟩
    exact ⟨rfl, ⟨_, v1, v3', hw, k3, by simp [camehome], rfl, fun _ => rfl⟩, ho⟩
theorem p_come {m i : Nat} (h : PW B g v2 bs (Made m) w) :
    Calls Try.prog 49 #[.pointer (some ⟨g, 0, none⟩), .int .i64 (i : Int)] w fun e w' => (∃ c : Int, e = .returned (.int .i64 c)) ∧ PW B g v2 bs (Made m) w' ∧ Old B w w' := by
  obtain ⟨s, v1, v3, h1, h2, h3⟩ := h
  by_cases hi : i < s.way.length
  · refine (come_yes h1 h2 hi).mono ?_
    rintro e w' ⟨rfl, ⟨s', v1', v3', k1, k2, k3, -, -⟩, ho⟩
    exact ⟨⟨0, rfl⟩, ⟨s', v1', v3', k1, k2, k3.trans h3⟩, ho⟩
  · refine (come_no h1 i (by omega)).mono ?_
    rintro e w' ⟨⟨c, rfl⟩, rfl⟩
    exact ⟨⟨c, rfl⟩, ⟨s, v1, v3, h1, h2, h3⟩, Old.refl _ _⟩
theorem p_under {φ : Wd → Prop} (h : PW B g v2 bs φ w) :
    Calls Try.prog 55 #[.pointer (some ⟨g, 0, none⟩)] w fun e w' => ∃ a n k, e = .returned (.slice a n k) ∧ n ≤ 60 ∧ Upd [] w w' := by
  obtain ⟨s, v1, v3, h1, h2, h3⟩ := h
  refine (under_any h1 h2.short).mono ?_
  rintro e w' ⟨v', rfl, ho, hu⟩
  obtain ⟨a, k, rfl, -⟩ := own_view ho
  exact ⟨a, _, k, rfl, h2.short, hu⟩
end

set_option maxHeartbeats 8000000 in
set_option maxRecDepth 100000 in
theorem weights_any (a : Option Addr) (len cap : Nat) (xs : List Int) (w : World) (hx : IntRow w a xs) (hl : xs.length = len) (hlc : len ≤ cap) (hc : cap ≤ 9223372036854775807) :
    Calls Try.prog 51 #[.slice a len cap] w fun e w' => ∃ (g : Nat) (v2 : Value) (bs : List Nat) (m : Nat), e = .returned (.tuple #[.pointer (some ⟨g, 0, none⟩), .int .i64 (m : Int), .bool true]) ∧ m ≤ 20 ∧ PW w.heap.size g v2 bs (Made m) w' ∧ Upd [] w w' := by
  have HX := hid hx
  have HL := hid hl
  clear hx hl
  obtain ⟨n, hn⟩ : ∃ n : Nat, min (len : Int) 150 = (n : Int) := ⟨min len 150, by omega⟩
  have hmin := fun ats ty => min_nat ats ty .i64 .i64 (len : Int) 150 n hn
  have hn1 : n ≤ len := by omega
  have hn2 : n ≤ 150 := by omega
  clear hn
  go_enter Try.func51, Try.ntmps51
  go_wp2_with fail
  refine (new_any 3 _ (by omega) (by omega)).mono ?_
  rintro e w1 ⟨g, v2, bs, rfl, hi, hu⟩
  have HP : Hid (PW w.heap.size g v2 bs (Made 0) w1) := hid ⟨_, _, _, hi, WI.start, rfl⟩
  have HU := hid hu
  clear hi hu
  go_wp2_with fail
  go_loopg [7, 30] n (fun d v7 v30 wr => ∃ (j m : Nat), v7 = .int .i64 (m : Int) ∧ v30 = .int .i64 (j : Int) ∧ m ≤ 20 ∧ Hid (j + d = n) ∧ Hid (PW w.heap.size g v2 bs (Made m) wr) ∧ Hid (Upd [] w wr))
  case atStart => exact ⟨0, 0, rfl, rfl, by omega, hid (by omega), HP, HU⟩
  case round =>
    obtain ⟨j, m, rfl, rfl, hm, Hj, Hp, Hu⟩ := hrel
    by_cases hj : j < n
    · obtain ⟨x, rfl, hcw⟩ := HX.out j (by rw [HL.out]; omega)
      obtain ⟨k, hk⟩ : ∃ k, k = xs.getD j 0 := ⟨_, rfl⟩
      rw [← hk] at hcw
      clear hk
      have hc1 := Hu.out.cell hcw (by simp)
      clear hcw
      obtain ⟨mm, hmm⟩ : ∃ mm : Nat, max (m : Int) 1 = (mm : Int) := ⟨max m 1, by omega⟩
      have hmax := fun ats ty => max_nat ats ty .i64 .i64 (m : Int) 1 mm hmm
      have hm1 : 1 ≤ mm := by omega
      have hm2 : mm ≤ 20 := by omega
      clear hmm
      go_wp2_with fail
      refine (rest_some _ _ _ (by omega) (by omega)).mono ?_
      rintro e w' ⟨rn, hrn, -, rfl, rfl⟩
      go_wp2_with fail
      refine (rest_some _ _ _ (by omega) (by omega)).mono ?_
      rintro e w' ⟨rt, hrt, -, rfl, rfl⟩
      clear hmax
      go_wp2_with fail
      refine (rest_some _ _ _ (by omega) (by omega)).mono ?_
      rintro e w' ⟨r, hr, -, rfl, rfl⟩
      have hr' : r = 0 ∨ r = 1 ∨ r = 2 ∨ r = 3 ∨ r = 4 ∨ r = 5 ∨ r = 6 ∨ r = 7 := by omega
      clear hr
      rcases hr' with rfl | rfl | rfl | rfl | rfl | rfl | rfl | rfl
      · by_cases h20 : m < 20
        · go_wp2_with fail
          refine (p_make_yes Hp.out (by omega) h20).mono ?_
          rintro e w2 ⟨rfl, hp, ho⟩
          have Hp2 := hid hp
          have Hu2 := hid (ho.after Hu.out (Nat.le_refl _))
          clear hp ho
          go_wp2_with fail
          go_roundg (n - (j + 1))
          case measure => have := Hj.out; omega
          case rel => exact ⟨j + 1, m + 1, rfl, by go_num, by omega, hid (by have := Hj.out; omega), Hp2, Hu2⟩
        · obtain rfl : m = 20 := by omega
          go_wp2_with fail
          refine (p_make_no Hp.out (by omega)).mono ?_
          rintro e w2 ⟨rfl, rfl⟩
          go_wp2_with fail
          go_roundg (n - (j + 1))
          case measure => have := Hj.out; omega
          case rel => exact ⟨j + 1, 20, rfl, by go_num, by omega, hid (by have := Hj.out; omega), Hp, Hu⟩
      · go_wp2_with fail
        refine (rest_some _ _ _ (by omega) (by omega)).mono ?_
        rintro e w' ⟨rd, hrd, -, rfl, rfl⟩
        go_wp2_with fail
        refine (p_send Hp.out (by omega)).mono ?_
        rintro e w2 ⟨⟨c, rfl⟩, hp, ho⟩
        have Hp2 := hid hp
        have Hu2 := hid (ho.after Hu.out (Nat.le_refl _))
        clear hp ho
        go_wp2_with fail
        go_roundg (n - (j + 1))
        case measure => have := Hj.out; omega
        case rel => exact ⟨j + 1, m, rfl, by go_num, by omega, hid (by have := Hj.out; omega), Hp2, Hu2⟩
      · go_wp2_with fail
        refine (rest_some _ _ _ (by omega) (by omega)).mono ?_
        rintro e w' ⟨rd, hrd, -, rfl, rfl⟩
        go_wp2_with fail
        refine (p_send Hp.out (by omega)).mono ?_
        rintro e w2 ⟨⟨c, rfl⟩, hp, ho⟩
        have Hp2 := hid hp
        have Hu2 := hid (ho.after Hu.out (Nat.le_refl _))
        clear hp ho
        go_wp2_with fail
        go_roundg (n - (j + 1))
        case measure => have := Hj.out; omega
        case rel => exact ⟨j + 1, m, rfl, by go_num, by omega, hid (by have := Hj.out; omega), Hp2, Hu2⟩
      · go_wp2_with fail
        refine (rest_some _ _ _ (by omega) (by omega)).mono ?_
        rintro e w' ⟨rd, hrd, -, rfl, rfl⟩
        go_wp2_with fail
        refine (p_send Hp.out (by omega)).mono ?_
        rintro e w2 ⟨⟨c, rfl⟩, hp, ho⟩
        have Hp2 := hid hp
        have Hu2 := hid (ho.after Hu.out (Nat.le_refl _))
        clear hp ho
        go_wp2_with fail
        go_roundg (n - (j + 1))
        case measure => have := Hj.out; omega
        case rel => exact ⟨j + 1, m, rfl, by go_num, by omega, hid (by have := Hj.out; omega), Hp2, Hu2⟩
      · go_wp2_with fail
        refine (p_drop Hp.out).mono ?_
        rintro e w2 ⟨⟨c, rfl⟩, hp, ho⟩
        have Hp2 := hid hp
        have Hu2 := hid (ho.after Hu.out (Nat.le_refl _))
        clear hp ho
        go_wp2_with fail
        go_roundg (n - (j + 1))
        case measure => have := Hj.out; omega
        case rel => exact ⟨j + 1, m, rfl, by go_num, by omega, hid (by have := Hj.out; omega), Hp2, Hu2⟩
      · go_wp2_with fail
        refine (p_under Hp.out).mono ?_
        rintro e w2 ⟨ua, un, uk, rfl, hun, hu⟩
        have Hp1 := hid (Hp.out.upd hu)
        have Hu1 := hid (Hu.out.trans hu (fun t ht => by cases ht))
        clear hu
        obtain ⟨nn, hnn⟩ : ∃ nn : Nat, max 1 (un : Int) = (nn : Int) := ⟨max 1 un, by omega⟩
        have hmax := fun ats ty => max_nat ats ty .i64 .i64 1 (un : Int) nn hnn
        have hn3 : 1 ≤ nn := by omega
        have hn4 : nn ≤ 60 := by omega
        clear hnn
        go_wp2_with fail
        refine (rest_some _ _ _ (by omega) (by omega)).mono ?_
        rintro e w' ⟨rd, hrd, -, rfl, rfl⟩
        clear hmax
        go_wp2_with fail
        refine (p_come Hp1.out).mono ?_
        rintro e w3 ⟨⟨c, rfl⟩, hp, ho⟩
        have Hp2 := hid hp
        have Hu2 := hid (ho.after Hu1.out (Nat.le_refl _))
        clear hp ho
        go_wp2_with fail
        go_roundg (n - (j + 1))
        case measure => have := Hj.out; omega
        case rel => exact ⟨j + 1, m, rfl, by go_num, by omega, hid (by have := Hj.out; omega), Hp2, Hu2⟩
      · go_wp2_with fail
        refine (p_under Hp.out).mono ?_
        rintro e w2 ⟨ua, un, uk, rfl, hun, hu⟩
        have Hp1 := hid (Hp.out.upd hu)
        have Hu1 := hid (Hu.out.trans hu (fun t ht => by cases ht))
        clear hu
        obtain ⟨nn, hnn⟩ : ∃ nn : Nat, max 1 (un : Int) = (nn : Int) := ⟨max 1 un, by omega⟩
        have hmax := fun ats ty => max_nat ats ty .i64 .i64 1 (un : Int) nn hnn
        have hn3 : 1 ≤ nn := by omega
        have hn4 : nn ≤ 60 := by omega
        clear hnn
        go_wp2_with fail
        refine (rest_some _ _ _ (by omega) (by omega)).mono ?_
        rintro e w' ⟨rd, hrd, -, rfl, rfl⟩
        clear hmax
        go_wp2_with fail
        refine (p_come Hp1.out).mono ?_
        rintro e w3 ⟨⟨c, rfl⟩, hp, ho⟩
        have Hp2 := hid hp
        have Hu2 := hid (ho.after Hu1.out (Nat.le_refl _))
        clear hp ho
        go_wp2_with fail
        go_roundg (n - (j + 1))
        case measure => have := Hj.out; omega
        case rel => exact ⟨j + 1, m, rfl, by go_num, by omega, hid (by have := Hj.out; omega), Hp2, Hu2⟩
      · go_wp2_with fail
        refine (p_under Hp.out).mono ?_
        rintro e w2 ⟨ua, un, uk, rfl, hun, hu⟩
        have Hp1 := hid (Hp.out.upd hu)
        have Hu1 := hid (Hu.out.trans hu (fun t ht => by cases ht))
        clear hu
        obtain ⟨nn, hnn⟩ : ∃ nn : Nat, max 1 (un : Int) = (nn : Int) := ⟨max 1 un, by omega⟩
        have hmax := fun ats ty => max_nat ats ty .i64 .i64 1 (un : Int) nn hnn
        have hn3 : 1 ≤ nn := by omega
        have hn4 : nn ≤ 60 := by omega
        clear hnn
        go_wp2_with fail
        refine (rest_some _ _ _ (by omega) (by omega)).mono ?_
        rintro e w' ⟨rd, hrd, -, rfl, rfl⟩
        clear hmax
        go_wp2_with fail
        refine (p_come Hp1.out).mono ?_
        rintro e w3 ⟨⟨c, rfl⟩, hp, ho⟩
        have Hp2 := hid hp
        have Hu2 := hid (ho.after Hu1.out (Nat.le_refl _))
        clear hp ho
        go_wp2_with fail
        go_roundg (n - (j + 1))
        case measure => have := Hj.out; omega
        case rel => exact ⟨j + 1, m, rfl, by go_num, by omega, hid (by have := Hj.out; omega), Hp2, Hu2⟩
    · go_wp2_with fail
      go_ret3
      exact ⟨g, v2, bs, m, rfl, hm, Hp.out, Hu.out⟩
end Go.Proofs.Ytmdhhembkmkfdaa.Wt
