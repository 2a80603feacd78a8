/- A world of weights: what Make, Send, Drop and Come refuse; Under. -/
import Derived.Test.YtmdhhembkmkfdaaWr
import Derived.Shelf.SlicesE.Clone
namespace Go.Proofs.Ytmdhhembkmkfdaa.Wt
open Go Go.RowKit Go.Proofs.Ytmdhhembkmkfdaa.K Go.Proofs.Ytmdhhembkmkfdaa.M Go.Proofs.Ytmdhhembkmkfdaa.O

set_option maxHeartbeats 2000000 in
set_option maxRecDepth 100000 in
theorem make_no {w : World} {B g : Nat} {s : Wd} {v1 v2 v3 : Value} {bs : List Nat} (h : IsW w B g s v1 v2 v3 bs) (n : Nat) (hn : n < s.nodes) (h20 : s.things.length = 20) :
    Calls Try.prog 46 #[.pointer (some ⟨g, 0, none⟩), .int .i64 (n : Int)] w fun e w' => e = .returned (.tuple #[.int .i64 0, .int .i64 6]) ∧ w' = w := by
  obtain ⟨c0, c1, c2, -⟩ := h.c0
  have nd := node_any h n
  obtain ⟨a1, k1, e1, l1, l2⟩ := h.len1
  rw [h20] at e1
  subst e1
  rw [decide_eq_true hn] at nd
  clear h hn h20 l1
  go_enter Try.func46, Try.ntmps46
  go_wp2_with fail
  refine nd.mono ?_
  rintro e w' ⟨rfl, rfl⟩
  go_wp2_with fail
  go_ret2
  exact ⟨rfl, rfl⟩

set_option maxHeartbeats 2000000 in
set_option maxRecDepth 100000 in
theorem send_no {w : World} {B g : Nat} {s : Wd} {v1 v2 v3 : Value} {bs : List Nat} (h : IsW w B g s v1 v2 v3 bs) (n t dst : Nat) (hto : dst < s.nodes) (h60 : s.way.length ≤ 60) (hno : ¬ (chk s n t = 0 ∧ dst ≠ n ∧ s.way.length < 60 ∧ s.has n t ≠ 1)) :
    Calls Try.prog 48 #[.pointer (some ⟨g, 0, none⟩), .int .i64 (n : Int), .int .i64 (t : Int), .int .i64 (dst : Int)] w fun e w' => (∃ c : Int, e = .returned (.int .i64 c)) ∧ w' = w := by
  obtain ⟨c0, c1, c2, c3, -⟩ := h.c0
  have ck := check_any h n t
  have nd := node_any h dst
  rw [decide_eq_true hto] at nd
  by_cases hk : chk s n t = 0
  · rw [hk] at ck
    have hn : n < s.nodes := by
      by_cases q : n < s.nodes
      · exact q
      · unfold chk at hk; rw [if_neg (fun z => q z.1)] at hk; cases hk
    obtain ⟨g2, k2, e2, d2, l3, l4⟩ := h.ptr hn
    obtain ⟨a3, k3, e3, l5, l6⟩ := h.len3
    obtain ⟨hB, m, hm, hnd, hf⟩ := h.maps n hn
    have lk := (run_look (P := Try.prog) hm Try.underlying88 Try.underlying3 (Try.zeroValue3 _) (t : Int)).1
    rw [hf t] at lk
    obtain ⟨b, hbb⟩ : ∃ b, b = bs.getD n 0 := ⟨_, rfl⟩
    obtain ⟨x, hx⟩ : ∃ x, x = s.has n t := ⟨_, rfl⟩
    rw [← hbb] at lk d2
    rw [← hx] at lk hno
    have hn' : (n : Int) < (s.nodes : Int) := by omega
    obtain ⟨p, hp⟩ : ∃ p, p = s.way.length := ⟨_, rfl⟩
    rw [← hp] at hno h60 e3 l5
    by_cases hne : dst = n
    · subst hne
      clear h hm hnd hf hbb hx hto hno hp hn hk e2 e3 lk d2
      go_enter Try.func48, Try.ntmps48
      go_wp2_with fail
      refine ck.mono ?_
      rintro e w' ⟨rfl, rfl⟩
      go_wp2_with fail
      refine nd.mono ?_
      rintro e w' ⟨rfl, rfl⟩
      go_wp2_with fail
      go_ret
      exact ⟨⟨_, rfl⟩, rfl⟩
    · have q1 : ((dst : Int) == (n : Int)) = false := by rw [beq_eq_false_iff_ne]; omega
      by_cases hw : p = 60
      · subst e3
        subst hw
        clear h hm hnd hf hbb hx hto hno hp hn hk e2 lk d2 hne
        go_enter Try.func48, Try.ntmps48
        go_wp2_with fail
        refine ck.mono ?_
        rintro e w' ⟨rfl, rfl⟩
        go_wp2_with fail
        refine nd.mono ?_
        rintro e w' ⟨rfl, rfl⟩
        go_wp2_with fail
        go_ret
        exact ⟨⟨_, rfl⟩, rfl⟩
      · have q2 : ((p : Int) == 60) = false := by rw [beq_eq_false_iff_ne]; omega
        have hx1 : x = 1 := by
          by_cases q : x = 1
          · exact q
          · exact absurd ⟨hk, hne, by omega, q⟩ hno
        subst hx1
        subst e2
        subst e3
        clear h hm hnd hf hbb hx hto hno hp hn hk hne hw
        go_enter Try.func48, Try.ntmps48
        go_wp2_with fail
        refine ck.mono ?_
        rintro e w' ⟨rfl, rfl⟩
        go_wp2_with fail
        refine nd.mono ?_
        rintro e w' ⟨rfl, rfl⟩
        go_wp2_with fail
        go_ret
        exact ⟨⟨_, rfl⟩, rfl⟩
  · have hk' : ((chk s n t : Int) != 0) = true := by rw [bne_iff_ne]; omega
    clear h hk hno
    go_enter Try.func48, Try.ntmps48
    go_wp2_with fail
    refine ck.mono ?_
    rintro e w' ⟨rfl, rfl⟩
    go_wp2_with fail
    go_ret
    exact ⟨⟨_, rfl⟩, rfl⟩

set_option maxHeartbeats 2000000 in
set_option maxRecDepth 100000 in
theorem drop_no {w : World} {B g : Nat} {s : Wd} {v1 v2 v3 : Value} {bs : List Nat} (h : IsW w B g s v1 v2 v3 bs) (n t : Nat) (h60 : s.way.length ≤ 60) (hno : ¬ (chk s n t = 0 ∧ s.way.length < 60)) :
    Calls Try.prog 50 #[.pointer (some ⟨g, 0, none⟩), .int .i64 (n : Int), .int .i64 (t : Int)] w fun e w' => (∃ c : Nat, e = .returned (.int .i64 (c : Int)) ∧ (chk s n t ≠ 0 → c = chk s n t)) ∧ w' = w := by
  obtain ⟨c0, c1, c2, c3, -⟩ := h.c0
  have ck := check_any h n t
  by_cases hk : chk s n t = 0
  · rw [hk] at ck
    obtain ⟨a3, k3, e3, l5, l6⟩ := h.len3
    have hp : s.way.length = 60 := by
      by_cases q : s.way.length = 60
      · exact q
      · exact absurd ⟨hk, by omega⟩ hno
    rw [hp] at e3
    subst e3
    have HK := hid hk
    clear h hno hp hk l5 h60
    go_enter Try.func50, Try.ntmps50
    go_wp2_with fail
    refine ck.mono ?_
    rintro e w' ⟨rfl, rfl⟩
    go_wp2_with fail
    go_ret
    exact ⟨⟨6, rfl, fun e => absurd HK.out e⟩, rfl⟩
  · have hk' : ((chk s n t : Int) != 0) = true := by rw [bne_iff_ne]; omega
    clear h hk hno
    go_enter Try.func50, Try.ntmps50
    go_wp2_with fail
    refine ck.mono ?_
    rintro e w' ⟨rfl, rfl⟩
    go_wp2_with fail
    go_ret
    exact ⟨⟨_, rfl, fun _ => rfl⟩, rfl⟩

set_option maxHeartbeats 2000000 in
set_option maxRecDepth 100000 in
theorem come_no {w : World} {B g : Nat} {s : Wd} {v1 v2 v3 : Value} {bs : List Nat} (h : IsW w B g s v1 v2 v3 bs) (i : Nat) (hi : s.way.length ≤ i) :
    Calls Try.prog 49 #[.pointer (some ⟨g, 0, none⟩), .int .i64 (i : Int)] w fun e w' => (∃ c : Int, e = .returned (.int .i64 c)) ∧ w' = w := by
  obtain ⟨c0, c1, c2, c3, -⟩ := h.c0
  obtain ⟨a3, k3, e3, l5, l6⟩ := h.len3
  have hi' : (s.way.length : Int) ≤ (i : Int) := by omega
  subst e3
  clear h hi
  go_enter Try.func49, Try.ntmps49
  go_wp2_with fail
  go_ret
  exact ⟨⟨_, rfl⟩, rfl⟩

def laysWay_ren : Go.Shelf.Ren := ⟨fun | 41 => 64 | n => n, fun | 22 => 70 | 23 => 92 | 4 => 4 | n => n, fun | n => n⟩
theorem laysWay : Go.Proofs.SlLaysE0.n41 Try.prog laysWay_ren := {
  mixed := by kernel_rfl
  f41 := ⟨Try.f64.name, by decide, Try.func64.trans (congrArg some (by kernel_rfl))⟩
  t4 := Try.underlying4
  a4 := Try.isAgg4
  z4 := Try.sizeOf4
  v4 := Try.zeroValue4
  t22 := Try.underlying70
  a22 := Try.isAgg70
  z22 := Try.sizeOf70
  v22 := Try.zeroValue70 }

theorem clone_way (B : Nat) (v : Value) (l : List Way) (w : World) (h : w.ownsRow B 92 4 v l.length (wayCells l)) (h60 : l.length ≤ 60) :
    Calls Try.prog 64 #[v] w fun e w' => ∃ v', e = .returned v' ∧ w'.ownsRow w.heap.size 92 4 v' l.length (wayCells l) ∧ Upd [] w w' := by
  obtain ⟨i92, hi, hz0, hz1, hz2⟩ := info_parts info92
  obtain ⟨a, k, e, h1, h2, h3⟩ := own_view h
  subst e
  cases a with
  | none =>
    have h0 : l.length = 0 := by
      cases l with
      | nil => rfl
      | cons x l =>
        obtain ⟨g', e', -⟩ := h3 0 _ (wayCells_get (x :: l) 0 (by simp)).1
        cases e'
    have hl : l = [] := List.eq_nil_of_length_eq_zero h0
    subst hl
    refine (Go.Proofs.AnyE.slices_Clone_nil laysWay 0 k w).mono ?_
    rintro e w' ⟨rfl, rfl⟩
    exact ⟨_, rfl, World.ownsRow_nil _ _ _ _, Upd.refl _ _⟩
  | some x =>
    have hx : ∃ b, x = ⟨b, 0, none⟩ := by
      rcases h.2 with ⟨e, _⟩ | ⟨g, cap, cur, e, _⟩
      · simp at e
      · cases e; exact ⟨_, rfl⟩
    obtain ⟨b, rfl⟩ := hx
    refine (Go.Proofs.AnyE.slices_Clone laysWay i92 _ 4 32 hi hz0 hz1 hz2 rfl (by decide) (fun w => by kernel_rfl) b 0 l.length k (wayCells l) w (by rw [wayCells_len]) (by unfold maxLen; omega) (by omega) (fun j u hu => ?_) (wayCells_one l)).mono ?_
    · rw [Nat.zero_add]
      obtain ⟨g', e', _, hc, _⟩ := h3 j u hu
      cases e'
      exact hc
    · rintro e w' ⟨v', rfl, ho, _, hb⟩
      exact ⟨v', rfl, ho, Upd.of_below hb []⟩

set_option maxHeartbeats 2000000 in
set_option maxRecDepth 100000 in
theorem under_any {w : World} {B g : Nat} {s : Wd} {v1 v2 v3 : Value} {bs : List Nat} (h : IsW w B g s v1 v2 v3 bs) (h60 : s.way.length ≤ 60) :
    Calls Try.prog 55 #[.pointer (some ⟨g, 0, none⟩)] w fun e w' => ∃ v', e = .returned v' ∧ w'.ownsRow w.heap.size 92 4 v' s.way.length (wayCells s.way) ∧ Upd [] w w' := by
  obtain ⟨c0, c1, c2, c3, -⟩ := h.c0
  have cl := clone_way B v3 s.way w h.way h60
  clear h
  go_enter Try.func55, Try.ntmps55
  go_wp2_with fail
  refine cl.mono ?_
  rintro e w' ⟨v', rfl, ho, hu⟩
  have HO := hid ho
  have HU := hid hu
  clear ho hu
  go_wp2_with fail
  go_ret
  exact ⟨_, rfl, HO.out, HU.out⟩
end Go.Proofs.Ytmdhhembkmkfdaa.Wt
