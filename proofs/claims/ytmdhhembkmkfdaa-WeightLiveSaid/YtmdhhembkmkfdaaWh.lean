/- A world of weights: a reference handed on, each time with half; weightBegun. -/
import Derived.Test.YtmdhhembkmkfdaaWr
namespace Go.Proofs.Ytmdhhembkmkfdaa.Wt
open Go Go.RowKit Go.Proofs.Ytmdhhembkmkfdaa.K Go.Proofs.Ytmdhhembkmkfdaa.M Go.Proofs.Ytmdhhembkmkfdaa.O

/-- Two nodes, one thing: its reference lies at node a with at least the weight 'want'; no weight is lost. -/
structure HS (s : Wd) (a want : Nat) : Prop where
  nodes : s.nodes = 2
  one : s.things.length = 1
  way : s.way = []
  home : (s.things.getD 0 noThing).home < 2
  out : (s.things.getD 0 noThing).out = s.has 0 0 + s.has 1 0
  top : (s.things.getD 0 noThing).out ≤ 65536
  at2 : a < 2
  want : want ≤ s.has a 0
theorem HS.chk {s : Wd} {a want k : Nat} (h : HS s a want) (hk : k < 2) (h1 : 1 ≤ s.has k 0) : chk s k 0 = 0 := by
  unfold Wt.chk
  rw [if_pos ⟨by rw [h.nodes]; exact hk, by rw [h.one]; omega⟩, if_neg (by omega)]
theorem HS.le {s : Wd} {a want k : Nat} (h : HS s a want) (hk : k < 2) : s.has k 0 ≤ 65536 := by
  have h1 := h.out
  have h2 := h.top
  have : k = 0 ∨ k = 1 := by omega
  rcases this with rfl | rfl <;> omega
theorem HS.passed {s : Wd} {a want : Nat} (h : HS s a want) (hw : 2 ≤ want) :
    HS (came (sent s a 0 (1 - a)) 0 ⟨1 - a, 0, s.has a 0 / 2, false⟩) (1 - a) (want / 2) ∧ 1 ≤ (came (sent s a 0 (1 - a)) 0 ⟨1 - a, 0, s.has a 0 / 2, false⟩).has a 0 := by
  have h0 := h.want
  have ho := h.out
  have ha : a = 0 ∨ a = 1 := by have := h.at2; omega
  refine ⟨⟨h.nodes, h.one, by simp [came, sent, h.way], h.home, ?_, h.top, by omega, ?_⟩, ?_⟩
  · simp only [List.getD_eq_getElem?_getD] at ho
    rcases ha with rfl | rfl
    · simp [came, sent, at1]; omega
    · simp [came, sent, at1]; omega
  · rcases ha with rfl | rfl
    · simp [came, sent, at1]; omega
    · simp [came, sent, at1]; omega
  · rcases ha with rfl | rfl
    · simp [came, sent, at1]; omega
    · simp [came, sent, at1]; omega
theorem HS.gone {s : Wd} {want : Nat} (h : HS s 0 want) :
    HS (camehome (dropped s 1 0) 0 ⟨(s.things.getD 0 noThing).home, 0, s.has 1 0, true⟩) 0 want := by
  have ho := h.out
  have ht := h.top
  obtain ⟨x, hx⟩ : ∃ x, s.things = [x] := by
    have h1 := h.one
    match hs : s.things with
    | [x] => exact ⟨x, rfl⟩
    | [] => rw [hs] at h1; cases h1
    | x :: y :: l => rw [hs] at h1; simp at h1
  have hm := h.home
  have h1 := h.want
  rw [hx] at ho ht hm
  simp at ho ht hm
  refine ⟨h.nodes, by simp [camehome, dropped, hx], by simp [camehome, dropped, h.way], ?_, ?_, ?_, by omega, ?_⟩
  · simp [camehome, dropped, hx]; exact hm
  · simp [camehome, dropped, at1, hx]; omega
  · simp [camehome, dropped, hx]; omega
  · simpa [camehome, dropped] using h1

section
variable (B g : Nat) (v2 : Value) (bs : List Nat)
def P0 (w : World) (a want : Nat) : Prop := ∃ s v1 v3, IsW w B g s v1 v2 v3 bs ∧ HS s a want
def P1 (w : World) (a want : Nat) : Prop := ∃ s v1 v3, IsW w B g (sent s a 0 (1 - a)) v1 v2 v3 bs ∧ HS s a want
def P2 (w : World) (a want : Nat) : Prop := ∃ s v1 v3, IsW w B g s v1 v2 v3 bs ∧ HS s (1 - a) (want / 2) ∧ 1 ≤ s.has a 0
def P3 (w : World) (want : Nat) : Prop := ∃ s v1 v3, IsW w B g (dropped s 1 0) v1 v2 v3 bs ∧ HS s 0 want ∧ 1 ≤ s.has 1 0
end
theorem P2.p0 {B g : Nat} {v2 : Value} {bs : List Nat} {w : World} {a want : Nat} (h : P2 B g v2 bs w a want) : P0 B g v2 bs w (1 - a) (want / 2) :=
  let ⟨s, v1, v3, h1, h2, _⟩ := h; ⟨s, v1, v3, h1, h2⟩
theorem h_has {B g : Nat} {v2 : Value} {bs : List Nat} {w : World} {a want : Nat} (h : P0 B g v2 bs w a want) (hw : 1 ≤ want) :
    Calls Try.prog 47 #[.pointer (some ⟨g, 0, none⟩), .int .i64 (a : Int), .int .i64 0] w fun e w' => ∃ k : Nat, want ≤ k ∧ e = .returned (.tuple #[.int .i64 (k : Int), .int .i64 0]) ∧ w' = w := by
  obtain ⟨s, v1, v3, h1, h2⟩ := h
  have hc := h2.chk h2.at2 (by have := h2.want; omega)
  refine (has_any h1 a 0).mono ?_
  rintro e w' ⟨rfl, rfl⟩
  refine ⟨s.has a 0, h2.want, ?_, rfl⟩
  unfold hasR
  rw [if_pos hc, hc]
  rfl
theorem h_send {B g : Nat} {v2 : Value} {bs : List Nat} {w : World} {a b want : Nat} (h : P0 B g v2 bs w a want) (hw : 2 ≤ want) (hb : b = 1 - a) :
    Calls Try.prog 48 #[.pointer (some ⟨g, 0, none⟩), .int .i64 (a : Int), .int .i64 0, .int .i64 (b : Int)] w fun e w' => e = .returned (.int .i64 0) ∧ P1 B g v2 bs w' a want ∧ Old B w w' := by
  subst hb
  obtain ⟨s, v1, v3, h1, h2⟩ := h
  have h3 := h2.want
  have h4 := h2.at2
  refine (send_yes h1 a 0 (1 - a) (h2.chk h2.at2 (by omega)) (by rw [h2.nodes]; omega) (by omega) (by rw [h2.way]; decide) (by omega) (h2.le h2.at2)).mono ?_
  rintro e w' ⟨rfl, ⟨v3', hi⟩, ho⟩
  exact ⟨rfl, ⟨s, v1, v3', hi, h2⟩, ho⟩
theorem h_come {B g : Nat} {v2 : Value} {bs : List Nat} {w : World} {a want : Nat} (h : P1 B g v2 bs w a want) (hw : 2 ≤ want) :
    Calls Try.prog 49 #[.pointer (some ⟨g, 0, none⟩), .int .i64 0] w fun e w' => e = .returned (.int .i64 0) ∧ P2 B g v2 bs w' a want ∧ Old B w w' := by
  obtain ⟨s, v1, v3, h1, h2⟩ := h
  have h3 := h2.want
  have h4 := h2.at2
  have h5 := h2.out
  have h6 := h2.top
  have hx : (sent s a 0 (1 - a)).way = [⟨1 - a, 0, s.has a 0 / 2, false⟩] := by simp [sent, h2.way]
  refine (come_to h1 0 (by rw [hx]; simp) (by rw [hx]; simp) (1 - a) 0 (s.has a 0 / 2) (by rw [hx]; rfl) (by show _ < s.nodes; rw [h2.nodes]; omega) ?_).mono ?_
  · have : a = 0 ∨ a = 1 := by omega
    rcases this with rfl | rfl
    · simp [sent]; omega
    · simp [sent]; omega
  · rintro e w' ⟨rfl, ⟨v3', hi⟩, ho⟩
    exact ⟨rfl, ⟨_, v1, v3', hi, h2.passed hw⟩, ho⟩
theorem h_drop {B g : Nat} {v2 : Value} {bs : List Nat} {w : World} {want : Nat} (h : P2 B g v2 bs w 1 want) :
    Calls Try.prog 50 #[.pointer (some ⟨g, 0, none⟩), .int .i64 1, .int .i64 0] w fun e w' => e = .returned (.int .i64 0) ∧ P3 B g v2 bs w' (want / 2) ∧ Old B w w' := by
  obtain ⟨s, v1, v3, h1, h2, h3⟩ := h
  refine (drop_yes h1 1 0 (h2.chk (by omega) h3) (by rw [h2.way]; decide)).mono ?_
  rintro e w' ⟨rfl, ⟨v3', hi⟩, ho⟩
  exact ⟨rfl, ⟨s, v1, v3', hi, h2, h3⟩, ho⟩
theorem h_home {B g : Nat} {v2 : Value} {bs : List Nat} {w : World} {want : Nat} (h : P3 B g v2 bs w want) :
    Calls Try.prog 49 #[.pointer (some ⟨g, 0, none⟩), .int .i64 0] w fun e w' => e = .returned (.int .i64 0) ∧ P0 B g v2 bs w' 0 want ∧ Old B w w' := by
  obtain ⟨s, v1, v3, h1, h2, h3⟩ := h
  have h5 := h2.out
  have h6 := h2.top
  have hx : (dropped s 1 0).way = [⟨(s.things.getD 0 noThing).home, 0, s.has 1 0, true⟩] := by simp [dropped, h2.way]
  refine (come_back h1 0 (by rw [hx]; simp) (by rw [hx]; simp) _ 0 (s.has 1 0) (by rw [hx]; rfl) (by show _ < s.things.length; rw [h2.one]; decide) (by show _ ≤ (s.things.getD 0 noThing).out; omega) (by show (s.things.getD 0 noThing).out ≤ _; omega)).mono ?_
  rintro e w' ⟨rfl, ⟨v3', hi⟩, ho⟩
  exact ⟨rfl, ⟨_, v1, v3', hi, h2.gone⟩, ho⟩

set_option maxHeartbeats 2000000 in
set_option maxRecDepth 100000 in
/-- weightBegun answers true. -/
theorem begun_any (w : World) : Calls Try.prog 44 #[] w fun e w' => e = .returned (.bool true) ∧ Upd [] w w' := by
  go_enter Try.func44, Try.ntmps44
  go_wp2_with fail
  refine (new_any 1 w (by omega) (by omega)).mono ?_
  rintro e w1 ⟨g, v2, bs, rfl, hi, hu⟩
  have HI := hid hi
  have HU := hid hu
  clear hi hu
  go_wp2_with fail
  refine (make_yes HI.out 0 (by show 0 < 1; omega) (by show 0 < 20; omega)).mono ?_
  rintro e w2 ⟨rfl, ⟨v1', hi⟩, ho⟩
  have HI2 := hid hi
  have HU2 := hid (ho.after HU.out (Nat.le_refl _))
  clear hi ho
  go_wp2_with fail
  refine (has_any HI2.out 0 0).mono ?_
  rintro e w3 ⟨rfl, rfl⟩
  have e1 : chk (made ⟨1, [], fun _ _ => 0, []⟩ 0) 0 0 = 0 := rfl
  have e2 : hasR (made ⟨1, [], fun _ _ => 0, []⟩ 0) 0 0 = 65536 := rfl
  rw [e1, e2]
  clear e1 e2
  go_wp2_with fail
  go_ret
  exact ⟨rfl, HU2.out⟩
end Go.Proofs.Ytmdhhembkmkfdaa.Wt
