/- The walks of package fence: leases and stores. -/
import Derived.Test.YtmdhhembkmkfdaaProg
import Derived.Test.YtmdhhembkmkfdaaK
import Derived.Test.YtmdhhembkmkfdaaR
import Derived.BigQuiet
import Derived.Deep.QuietTactic
import Derived.Deep.LoopGhost
import Derived.BigRegion
import Derived.IntWalk
namespace Go.Proofs.Ytmdhhembkmkfdaa.Fn
open Go Go.RowKit Go.Proofs.Ytmdhhembkmkfdaa.K Go.Proofs.Ytmdhhembkmkfdaa.R

/-- A lease behind the pointer to block g. -/
def IsL (w : World) (g : Nat) (now ep nd tl : Int) : Prop := w.heap[g]? = some (.cells #[.int .i64 now, .int .i64 ep, .int .i64 nd, .int .i64 tl] 77 (0, 0))
/-- A store behind the pointer to block g. -/
def IsS (w : World) (g : Nat) (ep v rf : Int) : Prop := w.heap[g]? = some (.cells #[.int .i64 ep, .int .i64 v, .int .i64 rf] 74 (0, 0))

section
variable {w : World} {g : Nat} {now ep nd tl : Int}
theorem IsL.c0 (h : IsL w g now ep nd tl) : w.cell? ⟨g, 0, none⟩ = some (.int .i64 now) := (blk_cell h 0).trans rfl
theorem IsL.c1 (h : IsL w g now ep nd tl) : w.cell? ⟨g, 1, none⟩ = some (.int .i64 ep) := (blk_cell h 1).trans rfl
theorem IsL.c2 (h : IsL w g now ep nd tl) : w.cell? ⟨g, 2, none⟩ = some (.int .i64 nd) := (blk_cell h 2).trans rfl
theorem IsL.c3 (h : IsL w g now ep nd tl) : w.cell? ⟨g, 3, none⟩ = some (.int .i64 tl) := (blk_cell h 3).trans rfl
theorem IsL.f (h : IsL w g now ep nd tl) (i : Nat) : w.frozen? ⟨g, i, none⟩ = false := blk_frozen h i
theorem IsL.s0 (h : IsL w g now ep nd tl) (x : Int) : IsL (w.setCell ⟨g, 0, none⟩ (.int .i64 x)) g x ep nd tl := (blk_set h 0 _).trans rfl
theorem IsL.s1 (h : IsL w g now ep nd tl) (x : Int) : IsL (w.setCell ⟨g, 1, none⟩ (.int .i64 x)) g now x nd tl := (blk_set h 1 _).trans rfl
theorem IsL.s2 (h : IsL w g now ep nd tl) (x : Int) : IsL (w.setCell ⟨g, 2, none⟩ (.int .i64 x)) g now ep x tl := (blk_set h 2 _).trans rfl
theorem IsL.s3 (h : IsL w g now ep nd tl) (x : Int) : IsL (w.setCell ⟨g, 3, none⟩ (.int .i64 x)) g now ep nd x := (blk_set h 3 _).trans rfl
theorem IsL.d (h : IsL w g now ep nd tl) (m : Nat) : IsL (w.drewN m) g now ep nd tl := h
theorem IsL.upd {S : List Nat} {w' : World} (h : IsL w g now ep nd tl) (u : Upd S w w') (hs : g ∉ S) : IsL w' g now ep nd tl := u.blk h hs
variable {v rf : Int}
theorem IsS.c0 (h : IsS w g ep v rf) : w.cell? ⟨g, 0, none⟩ = some (.int .i64 ep) := (blk_cell h 0).trans rfl
theorem IsS.c1 (h : IsS w g ep v rf) : w.cell? ⟨g, 1, none⟩ = some (.int .i64 v) := (blk_cell h 1).trans rfl
theorem IsS.c2 (h : IsS w g ep v rf) : w.cell? ⟨g, 2, none⟩ = some (.int .i64 rf) := (blk_cell h 2).trans rfl
theorem IsS.f (h : IsS w g ep v rf) (i : Nat) : w.frozen? ⟨g, i, none⟩ = false := blk_frozen h i
theorem IsS.s0 (h : IsS w g ep v rf) (x : Int) : IsS (w.setCell ⟨g, 0, none⟩ (.int .i64 x)) g x v rf := (blk_set h 0 _).trans rfl
theorem IsS.s1 (h : IsS w g ep v rf) (x : Int) : IsS (w.setCell ⟨g, 1, none⟩ (.int .i64 x)) g ep x rf := (blk_set h 1 _).trans rfl
theorem IsS.s2 (h : IsS w g ep v rf) (x : Int) : IsS (w.setCell ⟨g, 2, none⟩ (.int .i64 x)) g ep v x := (blk_set h 2 _).trans rfl
theorem IsS.d (h : IsS w g ep v rf) (m : Nat) : IsS (w.drewN m) g ep v rf := h
theorem IsS.upd {S : List Nat} {w' : World} (h : IsS w g ep v rf) (u : Upd S w w') (hs : g ∉ S) : IsS w' g ep v rf := u.blk h hs
end

theorem new_any (w : World) : Calls Try.prog 26 #[] w fun e w' => ∃ g, e = .returned (.pointer (some ⟨g, 0, none⟩)) ∧ IsL w' g 0 0 0 0 ∧ Upd [] w w' ∧ w.heap.size ≤ g := by
  go_enter Try.func26, Try.ntmps26
  go_wp2_with fail
  go_ret
  exact ⟨w.heap.size, rfl, blk_new w _, (Upd.refl [] w).alloc _, Nat.le_refl _⟩

theorem newS_any (w : World) : Calls Try.prog 22 #[] w fun e w' => ∃ g, e = .returned (.pointer (some ⟨g, 0, none⟩)) ∧ IsS w' g 0 0 0 ∧ Upd [] w w' ∧ w.heap.size ≤ g := by
  go_enter Try.func22, Try.ntmps22
  go_wp2_with fail
  go_ret
  exact ⟨w.heap.size, rfl, blk_new w _, (Upd.refl [] w).alloc _, Nat.le_refl _⟩

set_option maxHeartbeats 2000000 in
set_option maxRecDepth 100000 in
theorem take_yes (g : Nat) (now ep nd tl n t : Int) (w : World) (h : IsL w g now ep nd tl) (h1 : 1 ≤ n) (h2 : n ≤ 8) (h3 : 1 ≤ t) (h4 : t ≤ 1000) (b1 : 0 ≤ ep) (b2 : ep ≤ 1000000) (b3 : 0 ≤ now) (b4 : now ≤ 1000000)
    (hf : nd = 0 ∨ ¬ now < tl) :
    Calls Try.prog 27 #[.pointer (some ⟨g, 0, none⟩), .int .i64 n, .int .i64 t] w fun e w' => e = .returned (.tuple #[.int .i64 (ep + 1), .int .i64 0]) ∧ IsL w' g now (ep + 1) n (now + t) ∧ Upd [g] w w' := by
  have c0 := h.c0
  have c1 := h.c1
  have c2 := h.c2
  have c3 := h.c3
  have f1 := h.f 1
  have f2 := h.f 2
  have f3 := h.f 3
  have q1 : decide (n < 1) = false := by simp; omega
  have q2 : decide (8 < n) = false := by simp; omega
  have q3 : decide (t < 1) = false := by simp; omega
  have q4 : decide (1000 < t) = false := by simp; omega
  have H := hid h
  clear h
  have fin : ∀ m, IsL ((((w.drewN m).setCell ⟨g, 1, none⟩ (.int .i64 (ep + 1))).setCell ⟨g, 2, none⟩ (.int .i64 n)).setCell ⟨g, 3, none⟩ (.int .i64 (now + t))) g now (ep + 1) n (now + t) := fun m => (((H.out.d m).s1 _).s2 _).s3 _
  have FIN := hid fin
  clear fin
  by_cases hz : nd = 0
  · have hz' : (nd != 0) = false := by simp [hz]
    clear hz hf
    go_enter Try.func27, Try.ntmps27
    go_wp2_with fail
    go_quiet (fail)
    go_wp2_with fail
    go_ret2
    exact ⟨rfl, FIN.out _, ((((Upd.refl [g] w).drewN _).setCell (by simp) _).setCell (by simp) _).setCell (by simp) _⟩
  · have hz' : (nd != 0) = true := by simp [hz]
    have hlt : decide (now < tl) = false := by
      have : ¬ now < tl := by rcases hf with hf | hf; exact absurd hf hz; exact hf
      simp; omega
    clear hz hf
    go_enter Try.func27, Try.ntmps27
    go_wp2_with fail
    go_quiet (fail)
    go_wp2_with fail
    go_ret2
    exact ⟨rfl, FIN.out _, ((((Upd.refl [g] w).drewN _).setCell (by simp) _).setCell (by simp) _).setCell (by simp) _⟩

set_option maxHeartbeats 2000000 in
set_option maxRecDepth 100000 in
theorem take_no (g : Nat) (now ep nd tl n t : Int) (w : World) (h : IsL w g now ep nd tl) (h1 : 1 ≤ n) (h2 : n ≤ 8) (h3 : 1 ≤ t) (h4 : t ≤ 1000) (hz : nd ≠ 0) (hlt : now < tl) :
    Calls Try.prog 27 #[.pointer (some ⟨g, 0, none⟩), .int .i64 n, .int .i64 t] w fun e w' => e = .returned (.tuple #[.int .i64 0, .int .i64 5]) ∧ IsL w' g now ep nd tl ∧ Upd [g] w w' := by
  have c0 := h.c0
  have c2 := h.c2
  have c3 := h.c3
  have q1 : decide (n < 1) = false := by simp; omega
  have q2 : decide (8 < n) = false := by simp; omega
  have q3 : decide (t < 1) = false := by simp; omega
  have q4 : decide (1000 < t) = false := by simp; omega
  have H := hid h
  have hz' : (nd != 0) = true := by simp [hz]
  have hl' : decide (now < tl) = true := by simp; omega
  clear h hz
  go_enter Try.func27, Try.ntmps27
  go_wp2_with fail
  go_quiet (fail)
  go_wp2_with fail
  go_ret2
  exact ⟨rfl, H.out.d _, (Upd.refl [g] w).drewN _⟩

set_option maxHeartbeats 2000000 in
set_option maxRecDepth 100000 in
theorem tick_any (g : Nat) (now ep nd tl n : Int) (w : World) (h : IsL w g now ep nd tl) (h1 : 0 ≤ n) (h2 : n ≤ 1000) (b3 : 0 ≤ now) (b4 : now ≤ 1000000) :
    Calls Try.prog 30 #[.pointer (some ⟨g, 0, none⟩), .int .i64 n] w fun e w' => e = .returned (.int .i64 0) ∧ IsL w' g (now + n) ep nd tl ∧ Upd [g] w w' := by
  have c0 := h.c0
  have f0 := h.f 0
  have q1 : decide (n < 0) = false := by simp; omega
  have q2 : decide (1000 < n) = false := by simp; omega
  have H := hid h
  clear h
  go_enter Try.func30, Try.ntmps30
  go_wp2_with fail
  go_ret
  exact ⟨rfl, H.out.s0 _, ((Upd.refl [g] w)).setCell (by simp) _⟩

set_option maxHeartbeats 2000000 in
set_option maxRecDepth 100000 in
theorem who_no (g : Nat) (now ep nd tl : Int) (w : World) (h : IsL w g now ep nd tl) (hf : nd = 0 ∨ ¬ now < tl) :
    Calls Try.prog 31 #[.pointer (some ⟨g, 0, none⟩)] w fun e w' => e = .returned (.tuple #[.int .i64 0, .int .i64 ep, .int .i64 0]) ∧ IsL w' g now ep nd tl ∧ Upd [g] w w' := by
  have c0 := h.c0
  have c1 := h.c1
  have c2 := h.c2
  have c3 := h.c3
  have H := hid h
  clear h
  by_cases hz : nd = 0
  · have hz' : (nd == 0) = true := by simp [hz]
    clear hz hf
    go_enter Try.func31, Try.ntmps31
    go_wp2_with fail
    go_quiet (fail)
    go_wp2_with fail
    go_quiet (fail)
    go_wp2_with fail
    go_ret3
    exact ⟨rfl, H.out, ((Upd.refl [g] w).drewN _).drewN _⟩
  · have hz' : (nd == 0) = false := by simp [hz]
    have hlt : decide (tl ≤ now) = true := by
      have : ¬ now < tl := by rcases hf with hf | hf; exact absurd hf hz; exact hf
      simp; omega
    clear hz hf
    go_enter Try.func31, Try.ntmps31
    go_wp2_with fail
    go_quiet (fail)
    go_wp2_with fail
    go_quiet (fail)
    go_wp2_with fail
    go_ret3
    exact ⟨rfl, H.out, ((Upd.refl [g] w).drewN _).drewN _⟩

set_option maxHeartbeats 2000000 in
set_option maxRecDepth 100000 in
theorem who_yes (g : Nat) (now ep nd tl : Int) (w : World) (h : IsL w g now ep nd tl) (hz : nd ≠ 0) (hlt : now < tl) (b3 : 0 ≤ now) (b4 : tl ≤ 2000000) :
    Calls Try.prog 31 #[.pointer (some ⟨g, 0, none⟩)] w fun e w' => e = .returned (.tuple #[.int .i64 nd, .int .i64 ep, .int .i64 (tl - now)]) ∧ IsL w' g now ep nd tl ∧ Upd [g] w w' := by
  have c0 := h.c0
  have c1 := h.c1
  have c2 := h.c2
  have c3 := h.c3
  have H := hid h
  have hz' : (nd == 0) = false := by simp [hz]
  have hl' : decide (tl ≤ now) = false := by simp; omega
  clear h hz
  go_enter Try.func31, Try.ntmps31
  go_wp2_with fail
  go_quiet (fail)
  go_wp2_with fail
  go_quiet (fail)
  go_wp2_with fail
  go_ret3
  exact ⟨rfl, H.out, ((Upd.refl [g] w).drewN _).drewN _⟩

set_option maxHeartbeats 2000000 in
set_option maxRecDepth 100000 in
theorem keep_none (g : Nat) (now ep nd tl n e0 t : Int) (w : World) (h : IsL w g now ep nd tl) (h3 : 1 ≤ t) (h4 : t ≤ 1000) (hn : nd ≠ n) :
    Calls Try.prog 28 #[.pointer (some ⟨g, 0, none⟩), .int .i64 n, .int .i64 e0, .int .i64 t] w fun e w' => e = .returned (.int .i64 4) ∧ w = w' := by
  have c2 := h.c2
  have q3 : decide (t < 1) = false := by simp; omega
  have q4 : decide (1000 < t) = false := by simp; omega
  have hn' : (nd != n) = true := by simp [hn]
  clear h hn
  go_enter Try.func28, Try.ntmps28
  go_wp2_with fail
  go_ret
  exact ⟨rfl, rfl⟩

set_option maxHeartbeats 2000000 in
set_option maxRecDepth 100000 in
theorem keep_gone (g : Nat) (now ep nd tl t : Int) (w : World) (h : IsL w g now ep nd tl) (h3 : 1 ≤ t) (h4 : t ≤ 1000) (hn : nd ≠ 0) (hl : ¬ now < tl) :
    Calls Try.prog 28 #[.pointer (some ⟨g, 0, none⟩), .int .i64 nd, .int .i64 ep, .int .i64 t] w fun e w' => e = .returned (.int .i64 23) ∧ IsL w' g now ep nd tl ∧ Upd [g] w w' := by
  have c0 := h.c0
  have c1 := h.c1
  have c2 := h.c2
  have c3 := h.c3
  have q3 : decide (t < 1) = false := by simp; omega
  have q4 : decide (1000 < t) = false := by simp; omega
  have hn' : (nd == 0) = false := by simp [hn]
  have hl' : decide (tl ≤ now) = true := by simp; omega
  have H := hid h
  clear h hn hl
  go_enter Try.func28, Try.ntmps28
  go_wp2_with fail
  go_quiet (fail)
  go_wp2_with fail
  go_ret
  exact ⟨rfl, H.out.d _, (Upd.refl [g] w).drewN _⟩

theorem max_int (ats : Array TypeId) (ty : TypeId) (k k' : IntKind) (x y : Int) : Builtin.max_ ats ty #[.int k x, .int k' y] = pure (.int k (max x y)) := by
  have e : (if x < y then y else x) = max x y := by split <;> omega
  simp only [Builtin.max_, List.foldlM_cons, List.foldlM_nil, Builtin.max2, gt_iff_lt, e]; rfl

set_option maxHeartbeats 2000000 in
set_option maxRecDepth 100000 in
theorem keep_yes (g : Nat) (now ep nd tl t : Int) (w : World) (h : IsL w g now ep nd tl) (h3 : 1 ≤ t) (h4 : t ≤ 1000) (hn : nd ≠ 0) (hl : now < tl) (b3 : 0 ≤ now) (b4 : now ≤ 1000000) :
    Calls Try.prog 28 #[.pointer (some ⟨g, 0, none⟩), .int .i64 nd, .int .i64 ep, .int .i64 t] w fun e w' => e = .returned (.int .i64 0) ∧ IsL w' g now ep nd (max tl (now + t)) ∧ Upd [g] w w' := by
  have c0 := h.c0
  have c1 := h.c1
  have c2 := h.c2
  have c3 := h.c3
  have f3 := h.f 3
  have q3 : decide (t < 1) = false := by simp; omega
  have q4 : decide (1000 < t) = false := by simp; omega
  have hn' : (nd == 0) = false := by simp [hn]
  have hl' : decide (tl ≤ now) = false := by simp; omega
  have hmax := fun ats ty => max_int ats ty .i64 .i64 tl (now + t)
  have H := hid h
  clear h hn
  go_enter Try.func28, Try.ntmps28
  go_wp2_with fail
  go_quiet (fail)
  go_wp2_with fail
  go_region
  go_wp2_with fail
  go_ret
  exact ⟨rfl, H.out.s3 _, ((Upd.refl [g] w).setCell (p := ⟨g, 3, none⟩) (by simp) _).drewN _⟩

set_option maxHeartbeats 2000000 in
set_option maxRecDepth 100000 in
theorem leave_no (g : Nat) (now ep nd tl n e0 : Int) (w : World) (h : IsL w g now ep nd tl) (hn : nd ≠ n) :
    Calls Try.prog 29 #[.pointer (some ⟨g, 0, none⟩), .int .i64 n, .int .i64 e0] w fun e w' => e = .returned (.int .i64 4) ∧ w = w' := by
  have c2 := h.c2
  have hn' : (nd != n) = true := by simp [hn]
  clear h hn
  go_enter Try.func29, Try.ntmps29
  go_wp2_with fail
  go_ret
  exact ⟨rfl, rfl⟩

set_option maxHeartbeats 2000000 in
set_option maxRecDepth 100000 in
theorem leave_yes (g : Nat) (now ep nd tl : Int) (w : World) (h : IsL w g now ep nd tl) (hn : nd ≠ 0) :
    Calls Try.prog 29 #[.pointer (some ⟨g, 0, none⟩), .int .i64 nd, .int .i64 ep] w fun e w' => e = .returned (.int .i64 0) ∧ IsL w' g now ep 0 tl ∧ Upd [g] w w' := by
  have c1 := h.c1
  have c2 := h.c2
  have f2 := h.f 2
  have hn' : (nd == 0) = false := by simp [hn]
  have H := hid h
  clear h hn
  go_enter Try.func29, Try.ntmps29
  go_wp2_with fail
  go_ret
  exact ⟨rfl, H.out.s2 _, ((Upd.refl [g] w).setCell (p := ⟨g, 2, none⟩) (by simp) _)⟩

set_option maxHeartbeats 2000000 in
set_option maxRecDepth 100000 in
theorem put_yes (g : Nat) (ep v rf n x : Int) (w : World) (h : IsS w g ep v rf) (h1 : 1 ≤ n) (h2 : ep ≤ n) :
    Calls Try.prog 24 #[.pointer (some ⟨g, 0, none⟩), .int .i64 n, .int .i64 x] w fun e w' => e = .returned (.int .i64 0) ∧ IsS w' g n x rf ∧ Upd [g] w w' := by
  have c0 := h.c0
  have c1 := h.c1
  have f0 := h.f 0
  have f1 := h.f 1
  have q1 : decide (n < 1) = false := by simp; omega
  have q2 : decide (n < ep) = false := by simp; omega
  have H := hid h
  clear h
  go_enter Try.func24, Try.ntmps24
  go_wp2_with fail
  go_ret
  exact ⟨rfl, (H.out.s0 _).s1 _, ((Upd.refl [g] w).setCell (p := ⟨g, 0, none⟩) (by simp) _).setCell (p := ⟨g, 1, none⟩) (by simp) _⟩

set_option maxHeartbeats 2000000 in
set_option maxRecDepth 100000 in
theorem put_no (g : Nat) (ep v rf n x : Int) (w : World) (h : IsS w g ep v rf) (h1 : 1 ≤ n) (h2 : n < ep) (b1 : 0 ≤ rf) (b2 : rf ≤ 1000000) :
    Calls Try.prog 24 #[.pointer (some ⟨g, 0, none⟩), .int .i64 n, .int .i64 x] w fun e w' => e = .returned (.int .i64 23) ∧ IsS w' g ep v (rf + 1) ∧ Upd [g] w w' := by
  have c0 := h.c0
  have c2 := h.c2
  have f2 := h.f 2
  have q1 : decide (n < 1) = false := by simp; omega
  have q2 : decide (n < ep) = true := by simp; omega
  have H := hid h
  clear h
  go_enter Try.func24, Try.ntmps24
  go_wp2_with fail
  go_ret
  exact ⟨rfl, H.out.s2 _, ((Upd.refl [g] w).setCell (p := ⟨g, 2, none⟩) (by simp) _)⟩

set_option maxHeartbeats 2000000 in
set_option maxRecDepth 100000 in
theorem get_any (g : Nat) (ep v rf : Int) (w : World) (h : IsS w g ep v rf) :
    Calls Try.prog 25 #[.pointer (some ⟨g, 0, none⟩)] w fun e w' => e = .returned (.tuple #[.int .i64 v, .int .i64 ep, .int .i64 rf]) ∧ IsS w' g ep v rf ∧ Upd [g] w w' := by
  have c0 := h.c0
  have c1 := h.c1
  have c2 := h.c2
  have H := hid h
  clear h
  go_enter Try.func25, Try.ntmps25
  go_wp2_with fail
  go_quiet (fail)
  go_wp2_with fail
  go_ret3
  exact ⟨rfl, H.out, (Upd.refl [g] w).drewN _⟩

set_option maxHeartbeats 2000000 in
set_option maxRecDepth 100000 in
theorem begun_any (w : World) : Calls Try.prog 21 #[] w fun e w' => e = .returned (.bool true) ∧ Upd [] w w' := by
  go_enter Try.func21, Try.ntmps21
  go_wp2_with fail
  refine (new_any _).mono ?_
  rintro e w1 ⟨g, rfl, hq, hu, hg⟩
  have HQ1 := hid hq
  have HU1 := hid hu
  clear hq hu
  go_wp2_with fail
  refine (take_yes g 0 0 0 0 2 5 _ HQ1.out (by omega) (by omega) (by omega) (by omega) (by omega) (by omega) (by omega) (by omega) (.inl rfl)).mono ?_
  rintro e w2 ⟨rfl, hq, hu⟩
  have HQ2 := hid hq
  have HU2 := hid hu
  clear hq hu
  go_wp2_with fail
  refine (tick_any g 0 _ _ _ 1 _ HQ2.out (by omega) (by omega) (by omega) (by omega)).mono ?_
  rintro e w3 ⟨rfl, hq, hu⟩
  have HU3 := hid hu
  clear hq hu
  go_wp2_with fail
  go_ret
  exact ⟨rfl, (HU1.out.trans HU2.out (fun t ht => .inr (by simp at ht; omega))).trans HU3.out (fun t ht => .inr (by simp at ht; omega))⟩

end Go.Proofs.Ytmdhhembkmkfdaa.Fn
