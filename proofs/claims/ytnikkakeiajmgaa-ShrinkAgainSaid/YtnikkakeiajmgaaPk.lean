/- The walks of part.Same and of partBegun. -/
import Derived.Test.YtnikkakeiajmgaaPi
import Derived.Test.YtnikkakeiajmgaaPj
namespace Go.Proofs.Ytnikkakeiajmgaa.Pa
open Go Go.RowKit Go.Proofs.Ytnikkakeiajmgaa Go.Proofs.Ytnikkakeiajmgaa.K Go.Proofs.Ytnikkakeiajmgaa.M Go.Proofs.Ytnikkakeiajmgaa.O Go.Proofs.Ytnikkakeiajmgaa.R Go.Proofs.Ytnikkakeiajmgaa.Pt

theorem rounds_row {xs : List St} {R : List (List St)} (h : IsRounds whoS (pairs depS xs) R) : ∀ x ∈ R, x.length ≤ 8 := fun x hx => by
  obtain ⟨k, hk, rfl⟩ := List.mem_iff_getElem.1 hx
  have e : R.getD k [] = R[k] := by rw [List.getD_eq_getElem?_getD, List.getElem?_eq_getElem hk]; rfl
  have h1 := round_indep depS (good_pairs depS xs) k
  have h2 : ((round (pairs depS xs) k).map whoS).Nodup := List.pairwise_map.2 (h1.imp (fun {a b} hd e => by rw [depS_who a b e] at hd; cases hd))
  have h3 := nodup_le 8 _ h2 (fun x hx => by obtain ⟨a, -, rfl⟩ := List.mem_map.1 hx; exact a.who.isLt)
  rw [List.length_map] at h3
  have h4 := (h.perm k).length_eq
  rw [e] at h4
  omega
theorem rounds_len {xs : List St} {R : List (List St)} (h : IsRounds whoS (pairs depS xs) R) : R.length ≤ xs.length := by
  by_cases c : R.length = 0
  · omega
  · have h1 := h.ne (R.length - 1) (by omega)
    obtain ⟨s, hs⟩ := List.exists_mem_of_ne_nil _ h1
    have := lv_lt _ xs rfl _ (mem_round.1 ((h.perm _).subset hs))
    simp only at this
    omega
theorem same_iff {xs ys : List St} {R R' : List (List St)} (h : IsRounds whoS (pairs depS xs) R) (h' : IsRounds whoS (pairs depS ys) R') : decide (R = R') = true ↔ Proj depS xs ys := by
  rw [decide_eq_true_eq]
  constructor
  · intro e
    subst e
    exact Proj.of_rounds depS whoS h h'
  · intro hp
    exact h.unique whoS h' (hp.pairs depS whoS depS_who depS_comm)

set_option maxHeartbeats 8000000 in
set_option maxRecDepth 100000 in
theorem same_any (a b : Option Addr) (xs ys : List St) (n c m d : Nat) (w : World) (hn : n = xs.length) (h40 : n ≤ 40) (hx : StepAt w a xs) (hm : m = ys.length) (h40' : m ≤ 40) (hy : StepAt w b ys) :
    Calls Try.prog 13 #[.slice a n c, .slice b m d] w fun e w' => ∃ q, e = .returned (.tuple #[.bool q, .int .i64 0]) ∧ (q = true ↔ Proj depS xs ys) ∧ Upd [] w w' := by
  have C1 := hid (rounds_any a xs n c w hn h40 hx)
  have C2 := fun w' (u : Upd [] w w') => hid (rounds_any b ys m d w' hm h40' (hy.upd u))
  obtain ⟨B, hB⟩ : ∃ B, B = w.heap.size := ⟨_, rfl⟩
  rw [← hB] at C1
  have HN := hid hn
  have HM := hid hm
  clear hx hy hB hn hm
  go_enter Try.func13, Try.ntmps13
  go_wp2_with fail
  refine C1.out.mono ?_
  rintro e w1 ⟨v1, rfl, ⟨R1, ho1, hr1⟩, hu1⟩
  have O1 := hid ho1
  have R1' := hid hr1
  have U1 := hid hu1
  have C2' := C2 w1 hu1
  obtain ⟨B1, hB1⟩ : ∃ B, B = w1.heap.size := ⟨_, rfl⟩
  rw [← hB1] at C2'
  clear ho1 hr1 hu1 C1 C2 hB1
  go_wp2_with fail
  refine C2'.out.mono ?_
  rintro e w2 ⟨v2, rfl, ⟨R2, ho2, hr2⟩, hu2⟩
  have O2 := hid ho2
  have R2' := hid hr2
  have U2 := hid (U1.out.trans hu2 (fun t ht => by cases ht))
  have E2 := hid (eqf_any B B1 v1 v2 R1 R2 w2 (O1.out.new hu2) ho2 (by have := rounds_len R1'.out; have := HN.out; omega) (by have := rounds_len hr2; have := HM.out; omega) (fun x hx => by have := rounds_row R1'.out x hx; omega) (fun x hx => by have := rounds_row hr2 x hx; omega))
  clear ho2 hr2 hu2 C2' O1 O2
  go_wp2_with fail
  refine E2.out.mono ?_
  rintro e w3 ⟨rfl, hu3⟩
  have U3 := hid (U2.out.trans hu3 (fun t ht => by cases ht))
  clear hu3 E2 U2
  go_wp2_with fail
  go_ret2
  exact ⟨_, rfl, same_iff R1'.out R2'.out, U3.out⟩

def sOne : St := ⟨1, 0, 0⟩
def sTwo : St := ⟨2, 0, 0⟩
theorem begun_dep : depS sOne sTwo = false := by kernel_rfl
theorem begun_dep' : depS sTwo sOne = false := by kernel_rfl
theorem begun_proj : Proj depS [sOne, sTwo] [sTwo, sOne] := by
  intro S hS
  cases c1 : S sOne with
  | true =>
    cases c2 : S sTwo with
    | true =>
      have := hS sOne sTwo c1 c2
      rw [begun_dep] at this; cases this
    | false => simp [List.filter, c1, c2]
  | false =>
    cases c2 : S sTwo with
    | true => simp [List.filter, c1, c2]
    | false => simp [List.filter, c1, c2]

set_option maxHeartbeats 8000000 in
set_option maxRecDepth 100000 in
theorem begun_any (w : World) : Calls Try.prog 8 #[] w fun e w' => e = .returned (.bool true) ∧ Upd [] w w' := by
  obtain ⟨W, hW⟩ : ∃ W, W = (w.alloc (.cells #[.int .i64 1, .int .i64 0, .int .i64 0, .int .i64 2, .int .i64 0, .int .i64 0] 29)).alloc (.cells #[.int .i64 2, .int .i64 0, .int .i64 0, .int .i64 1, .int .i64 0, .int .i64 0] 29) := ⟨_, rfl⟩
  have T1 : StepAt W (some ⟨w.heap.size, 0, none⟩) [sOne, sTwo] := by rw [hW]; exact (two_at w sOne sTwo).upd ((Upd.refl [] _).alloc _)
  have T2 : StepAt W (some ⟨w.heap.size + 1, 0, none⟩) [sTwo, sOne] := by
    have h := two_at (w.alloc (.cells #[.int .i64 1, .int .i64 0, .int .i64 0, .int .i64 2, .int .i64 0, .int .i64 0] 29)) sTwo sOne
    rw [hW]
    have e : (w.alloc (.cells #[.int .i64 1, .int .i64 0, .int .i64 0, .int .i64 2, .int .i64 0, .int .i64 0] 29)).heap.size = w.heap.size + 1 := by simp
    rw [e] at h
    exact h
  have UW := hid (show Upd [] w W by rw [hW]; exact ((Upd.refl [] w).alloc _).alloc _)
  have SM := hid (same_any (some ⟨w.heap.size, 0, none⟩) (some ⟨w.heap.size + 1, 0, none⟩) [sOne, sTwo] [sTwo, sOne] 2 2 2 2 W rfl (by omega) T1 rfl (by omega) T2)
  clear T1 T2
  go_enter Try.func8, Try.ntmps8
  go_wp2_with fail
  rw [← hW]
  clear hW
  refine SM.out.mono ?_
  rintro e w3 ⟨q, rfl, hq, hu⟩
  have hq' := hq.2 begun_proj
  subst hq'
  have U := hid (UW.out.trans hu (fun t ht => by cases ht))
  clear hu hq SM
  go_wp2_with fail
  go_ret
  exact ⟨rfl, U.out⟩
end Go.Proofs.Ytnikkakeiajmgaa.Pa
