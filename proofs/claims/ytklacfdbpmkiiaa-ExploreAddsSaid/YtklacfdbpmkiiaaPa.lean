/- Steps in memory; part.depend, part.Check, part.Depend. -/
import Derived.Test.YtklacfdbpmkiiaaProg
import Derived.Test.YtklacfdbpmkiiaaPt
import Derived.Test.YtklacfdbpmkiiaaO
import Derived.Test.YtklacfdbpmkiiaaR
import Derived.Test.YtklacfdbpmkiiaaJ
import Derived.Deep.LoopGhost
import Derived.Deep.Cut
import Derived.Deep.CutRange
import Derived.BigRegion
import Derived.BigQuiet
import Derived.Deep.QuietTactic
import Derived.Deep.RegionWith
import Derived.StillTailTactics
namespace Go.Proofs.Ytklacfdbpmkiiaa.Pa
open Go Go.RowKit Go.Proofs.Ytklacfdbpmkiiaa Go.Proofs.Ytklacfdbpmkiiaa.K Go.Proofs.Ytklacfdbpmkiiaa.M Go.Proofs.Ytklacfdbpmkiiaa.O Go.Proofs.Ytklacfdbpmkiiaa.R

structure St where
  who : Fin 8
  rd : Fin 256
  wr : Fin 256
deriving DecidableEq, Inhabited

def depS (a b : St) : Bool := (a.who.val == b.who.val) || ((a.wr.val &&& (b.rd.val ||| b.wr.val)) != 0) || ((b.wr.val &&& a.rd.val) != 0)
def whoS (a : St) : Nat := a.who.val
theorem or_ne (x y : Nat) : (x ||| y) ≠ 0 ↔ x ≠ 0 ∨ y ≠ 0 := by
  have := @Nat.or_eq_zero_iff x y
  omega
theorem depS_iff (a b : St) : depS a b = true ↔ a.who = b.who ∨ (a.wr.val &&& b.rd.val) ≠ 0 ∨ (a.wr.val &&& b.wr.val) ≠ 0 ∨ (b.wr.val &&& a.rd.val) ≠ 0 := by
  unfold depS
  simp only [Bool.or_eq_true, beq_iff_eq, bne_iff_ne, Nat.and_or_distrib_left, or_ne, Fin.ext_iff]
  omega
theorem depS_comm (a b : St) : depS a b = depS b a := by
  rw [Bool.eq_iff_iff, depS_iff, depS_iff, Nat.and_comm a.wr.val b.wr.val]
  constructor
  · rintro (h | h | h | h)
    · exact .inl h.symm
    · exact .inr (.inr (.inr h))
    · exact .inr (.inr (.inl h))
    · exact .inr (.inl h)
  · rintro (h | h | h | h)
    · exact .inl h.symm
    · exact .inr (.inr (.inr h))
    · exact .inr (.inr (.inl h))
    · exact .inr (.inl h)
theorem depS_who (a b : St) (h : whoS a = whoS b) : depS a b = true := (depS_iff a b).2 (.inl (Fin.ext h))

/-- A step's cells. -/
def stc (s : St) : List Value := [.int .i64 ((s.who.val : Nat) : Int), .int .i64 ((s.rd.val : Nat) : Int), .int .i64 ((s.wr.val : Nat) : Int)]
def cellsOf (l : List St) : List Value := l.flatMap stc
theorem cellsOf_snoc (l : List St) (s : St) : cellsOf (l ++ [s]) = cellsOf l ++ stc s := by unfold cellsOf; simp
theorem cellsOf_length (l : List St) : (cellsOf l).length = l.length * 3 := by
  unfold cellsOf
  induction l with
  | nil => rfl
  | cons a l ih => simp only [List.flatMap_cons, List.length_append, ih, stc, List.length_cons, List.length_nil]; omega
/-- A slice's steps. -/
def StepAt (w : World) (a : Option Addr) (xs : List St) : Prop := ∀ i (h : i < xs.length), ∃ g, a = some ⟨g, 0, none⟩ ∧ w.cell? ⟨g, i * 3, none⟩ = some (.int .i64 ((xs[i].who.val : Nat) : Int)) ∧ w.cell? ⟨g, i * 3 + 1, none⟩ = some (.int .i64 ((xs[i].rd.val : Nat) : Int)) ∧ w.cell? ⟨g, i * 3 + 2, none⟩ = some (.int .i64 ((xs[i].wr.val : Nat) : Int))

theorem land_num (a b : Nat) (ha : a < 256) (hb : b < 256) : bits .and .i64 (a : Int) (b : Int) = ((a &&& b : Nat) : Int) := by
  have hx : a &&& b < 256 := Nat.lt_of_le_of_lt Nat.and_le_left ha
  have h1 : (BitVec.ofInt 64 (a : Int)).toNat = a := by
    rw [BitVec.ofInt_natCast, BitVec.toNat_ofNat]; exact Nat.mod_eq_of_lt (by omega)
  have h2 : (BitVec.ofInt 64 (b : Int)).toNat = b := by
    rw [BitVec.ofInt_natCast, BitVec.toNat_ofNat]; exact Nat.mod_eq_of_lt (by omega)
  show IntKind.i64.wrap ((BitVec.ofInt 64 (a : Int) &&& BitVec.ofInt 64 (b : Int)).toNat : Int) = _
  rw [BitVec.toNat_and, h1, h2]
  exact IntWalk.i64_in _ (by omega)
theorem lor_num (a b : Nat) (ha : a < 256) (hb : b < 256) : bits .or .i64 (a : Int) (b : Int) = ((a ||| b : Nat) : Int) := by
  have hx : a ||| b < 256 := Nat.or_lt_two_pow (n := 8) ha hb
  have h1 : (BitVec.ofInt 64 (a : Int)).toNat = a := by
    rw [BitVec.ofInt_natCast, BitVec.toNat_ofNat]; exact Nat.mod_eq_of_lt (by omega)
  have h2 : (BitVec.ofInt 64 (b : Int)).toNat = b := by
    rw [BitVec.ofInt_natCast, BitVec.toNat_ofNat]; exact Nat.mod_eq_of_lt (by omega)
  show IntKind.i64.wrap ((BitVec.ofInt 64 (a : Int) ||| BitVec.ofInt 64 (b : Int)).toNat : Int) = _
  rw [BitVec.toNat_or, h1, h2]
  exact IntWalk.i64_in _ (by omega)

set_option maxHeartbeats 4000000 in
set_option maxRecDepth 100000 in
theorem depend_any (a b : St) (w : World) : Calls Try.prog 35 #[.agg (stc a).toArray, .agg (stc b).toArray] w fun e w' => e = .returned (.bool (depS a b)) ∧ Upd [] w w' := by
  obtain ⟨⟨aw, haw⟩, ⟨ar, har⟩, ⟨ax, hax⟩⟩ := a
  obtain ⟨⟨bw, hbw⟩, ⟨br, hbr⟩, ⟨bx, hbx⟩⟩ := b
  unfold stc depS
  dsimp only
  have h1 := lor_num br bx hbr hbx
  have hor : br ||| bx < 256 := Nat.or_lt_two_pow (n := 8) hbr hbx
  obtain ⟨o, ho⟩ : ∃ o, o = br ||| bx := ⟨_, rfl⟩
  rw [← ho] at h1 hor ⊢
  have h2 := land_num ax o hax hor
  have h3 := land_num bx ar hbx har
  obtain ⟨p, hp⟩ : ∃ p, p = ax &&& o := ⟨_, rfl⟩
  obtain ⟨q, hq⟩ : ∃ q, q = bx &&& ar := ⟨_, rfl⟩
  rw [← hp] at h2 ⊢
  rw [← hq] at h3 ⊢
  clear hp hq ho haw hbw har hax hbr hbx hor
  by_cases c1 : aw = bw
  · subst c1
    rw [beq_self_eq_true, Bool.true_or, Bool.true_or]
    go_enter Try.func35, Try.ntmps35
    go_wp2_with fail
    go_ret
    exact ⟨rfl, ((Upd.refl [] w).alloc _).alloc _⟩
  · rw [beq_eq_false_iff_ne.2 c1, Bool.false_or]
    have c2 : ¬ (aw : Int) = (bw : Int) := by omega
    by_cases d1 : p = 0
    · subst d1
      have hb : ((0 : Nat) != 0 || q != 0) = ((q : Int) != 0) := by
        rw [Bool.eq_iff_iff]; simp
      rw [hb]
      go_enter Try.func35, Try.ntmps35
      go_wp2_with fail
      go_ret
      exact ⟨K.ret_bool (by rw [beq_eq_false_iff_ne.2 c2, Bool.false_or]), ((Upd.refl [] w).alloc _).alloc _⟩
    · have d2 : ¬ (p : Int) = 0 := by omega
      have hb : (p != 0 || q != 0) = true := by simp [d1]
      rw [hb]
      go_enter Try.func35, Try.ntmps35
      go_wp2_with fail
      go_ret
      exact ⟨rfl, ((Upd.refl [] w).alloc _).alloc _⟩

theorem StepAt.upd {w w' : World} {a : Option Addr} {xs : List St} (h : StepAt w a xs) (u : Upd [] w w') : StepAt w' a xs := fun i hi => by
  obtain ⟨g, e, h0, h1, h2⟩ := h i hi
  exact ⟨g, e, u.cell h0 (by simp), u.cell h1 (by simp), u.cell h2 (by simp)⟩
theorem StepAt.keep {w w' : World} {a : Option Addr} {xs : List St} (h : StepAt w a xs) {T : List Nat} (u : Upd T w w') (hT : ∀ g, a = some ⟨g, 0, none⟩ → g ∉ T) : StepAt w' a xs := fun i hi => by
  obtain ⟨g, e, h0, h1, h2⟩ := h i hi
  exact ⟨g, e, u.cell h0 (hT g e), u.cell h1 (hT g e), u.cell h2 (hT g e)⟩
theorem StepAt.take {w : World} {a : Option Addr} {xs : List St} (h : StepAt w a xs) (m : Nat) : StepAt w a (xs.take m) := fun i hi => by
  have hi' : i < xs.length := by simp at hi; omega
  obtain ⟨g, e, h0, h1, h2⟩ := h i hi'
  refine ⟨g, e, ?_⟩
  rw [List.getElem_take]
  exact ⟨h0, h1, h2⟩

end Go.Proofs.Ytklacfdbpmkiiaa.Pa
