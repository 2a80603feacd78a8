/- Two steps that stand side by side change places: rows, and memory. -/
import Derived.Test.YtnikkakeiajmgaaPk
namespace Go.Proofs.Ytnikkakeiajmgaa.Pa
open Go Go.RowKit Go.Proofs.Ytnikkakeiajmgaa Go.Proofs.Ytnikkakeiajmgaa.K Go.Proofs.Ytnikkakeiajmgaa.M Go.Proofs.Ytnikkakeiajmgaa.O Go.Proofs.Ytnikkakeiajmgaa.R Go.Proofs.Ytnikkakeiajmgaa.Pt

/-- The steps i and i + 1 have changed places. -/
def swp (l : List St) (i : Nat) : List St := (l.set i (l.getD (i + 1) default)).set (i + 1) (l.getD i default)
theorem swp_len (l : List St) (i : Nat) : (swp l i).length = l.length := by simp [swp]
theorem swp_split (l : List St) (i : Nat) (h : i + 1 < l.length) : ∃ p q, l = p ++ l.getD i default :: l.getD (i + 1) default :: q ∧ swp l i = p ++ l.getD (i + 1) default :: l.getD i default :: q := by
  have e0 : l = l.take i ++ l.drop i := (List.take_append_drop i l).symm
  have e1 : l.drop i = l[i] :: l.drop (i + 1) := List.drop_eq_getElem_cons (by omega)
  have e2 : l.drop (i + 1) = l[i + 1] :: l.drop (i + 2) := List.drop_eq_getElem_cons h
  have g0 : l.getD i default = l[i] := by rw [List.getD_eq_getElem?_getD, List.getElem?_eq_getElem (by omega)]; rfl
  have g1 : l.getD (i + 1) default = l[i + 1] := by rw [List.getD_eq_getElem?_getD, List.getElem?_eq_getElem h]; rfl
  unfold swp
  rw [g0, g1]
  generalize l[i] = x at e1
  generalize l[i + 1] = y at e2
  have hl : (l.take i).length = i := by rw [List.length_take]; omega
  have e3 : l = l.take i ++ x :: y :: l.drop (i + 2) := by rw [← e2, ← e1]; exact e0
  refine ⟨l.take i, l.drop (i + 2), e3, ?_⟩
  generalize l.take i = p at *
  generalize l.drop (i + 2) = q at *
  subst e3
  subst hl
  simp
theorem swp_perm (l : List St) (i : Nat) (h : i + 1 < l.length) : (swp l i).Perm l := by
  obtain ⟨p, q, e1, e2⟩ := swp_split l i h
  rw [e2]
  conv => rhs; rw [e1]
  exact List.Perm.append_left _ (List.Perm.swap _ _ _)
/-- Two steps may change places if they don't depend. -/
theorem swp_proj {l : List St} {i : Nat} (h : i + 1 < l.length) (hd : depS (l.getD i default) (l.getD (i + 1) default) = false) : Proj depS l (swp l i) := fun S hS => by
  obtain ⟨p, q, e1, e2⟩ := swp_split l i h
  rw [e2]
  conv => lhs; rw [e1]
  generalize l.getD i default = x at *
  generalize l.getD (i + 1) default = y at *
  rw [List.filter_append, List.filter_append]
  congr 1
  cases c1 : S x with
  | true =>
    cases c2 : S y with
    | true => have := hS x y c1 c2; rw [hd] at this; cases this
    | false => simp [List.filter, c1, c2]
  | false => simp [List.filter, c1]
theorem swp_same {l : List St} {i : Nat} (h : i + 1 < l.length) (hd : depS (l.getD i default) (l.getD (i + 1) default) = true) (hp : Proj depS l (swp l i)) : l.getD i default = l.getD (i + 1) default := by
  obtain ⟨p, q, e1, e2⟩ := swp_split l i h
  have hp2 : Proj depS (p ++ l.getD i default :: l.getD (i + 1) default :: q) (p ++ l.getD (i + 1) default :: l.getD i default :: q) := by
    rw [← e2, ← e1]; exact hp
  clear hp e1 e2
  generalize l.getD i default = x at *
  generalize l.getD (i + 1) default = y at *
  have e := hp2 (fun z => z == x || z == y) (two depS whoS depS_who depS_comm hd)
  rw [List.filter_append, List.filter_append, List.filter_cons_of_pos (by simp), List.filter_cons_of_pos (by simp)] at e
  have e3 := List.append_cancel_left e
  simpa using congrArg List.head? e3

theorem cells_set : ∀ (l : List St) (i : Nat) (s : St), i < l.length → (((cellsOf l).set (i * 3) (.int .i64 ((s.who.val : Nat) : Int))).set (i * 3 + 1) (.int .i64 ((s.rd.val : Nat) : Int))).set (i * 3 + 2) (.int .i64 ((s.wr.val : Nat) : Int)) = cellsOf (l.set i s)
  | [], _, _, h => by simp at h
  | x :: l, 0, e, _ => by simp [cellsOf, stc]
  | x :: l, i + 1, e, h => by
    have ih := cells_set l i e (by simpa using h)
    have e0 : (i + 1) * 3 = i * 3 + 3 := by omega
    simp only [cellsOf, List.flatMap_cons, stc, e0, List.cons_append, List.nil_append, List.set_cons_succ]
    simp only [cellsOf] at ih
    simp only [List.cons.injEq, true_and]
    exact ih
theorem StepsOf.set {w : World} {B g k n : Nat} {l : List St} (h : StepsOf w B (.slice (some ⟨g, 0, none⟩) n k) l) (hn : n = l.length) {i : Nat} (hi : i < n) (s : St) :
    StepsOf (((w.setCell ⟨g, i * 3, none⟩ (.int .i64 ((s.who.val : Nat) : Int))).setCell ⟨g, i * 3 + 1, none⟩ (.int .i64 ((s.rd.val : Nat) : Int))).setCell ⟨g, i * 3 + 2, none⟩ (.int .i64 ((s.wr.val : Nat) : Int))) B (.slice (some ⟨g, 0, none⟩) n k) (l.set i s) := by
  subst hn
  unfold StepsOf at h ⊢
  have hcl := cellsOf_length l
  rw [List.length_set, ← cells_set l i s (by omega)]
  exact row_set (row_set (row_set h (by omega) _) (by simp; omega) _) (by simp; omega) _
theorem StepsOf.fro {w : World} {B g k n : Nat} {l : List St} (h : StepsOf w B (.slice (some ⟨g, 0, none⟩) n k) l) (j : Nat) : w.frozen? ⟨g, j, none⟩ = false := by
  obtain ⟨cur, hg⟩ := own_block h g rfl
  exact K.blk_frozen hg j
theorem StepsOf.new {w w' : World} {B : Nat} {v : Value} {l : List St} (h : StepsOf w B v l) (u : Upd [] w w') : StepsOf w' B v l := own_new h u
theorem StepsOf.shape {w : World} {B : Nat} {v : Value} {l : List St} (h : StepsOf w B v l) (h0 : 0 < l.length) : ∃ g k, v = .slice (some ⟨g, 0, none⟩) l.length k ∧ B ≤ g ∧ l.length ≤ k ∧ k ≤ 9223372036854775807 := by
  obtain ⟨a, k, rfl, h1, h2, hc⟩ := own_view h
  obtain ⟨g, rfl, hb, -, -⟩ := hc _ _ (cells_get l 0 h0).1
  exact ⟨g, k, rfl, hb, h1, h2⟩
theorem StepsOf.view {w : World} {B : Nat} {v : Value} {l : List St} (h : StepsOf w B v l) : ∃ a k, v = .slice a l.length k ∧ l.length ≤ k ∧ k ≤ 9223372036854775807 := by
  obtain ⟨a, k, rfl, h1, h2, -⟩ := own_view h
  exact ⟨a, k, rfl, h1, h2⟩
/-- The cells of a step. -/
theorem StepsOf.cell {w : World} {B g k n : Nat} {l : List St} (h : StepsOf w B (.slice (some ⟨g, 0, none⟩) n k) l) {i : Nat} (hi : i < l.length) : w.cell? ⟨g, i * 3, none⟩ = some (.int .i64 (((l.getD i default).who.val : Nat) : Int)) ∧ w.cell? ⟨g, i * 3 + 1, none⟩ = some (.int .i64 (((l.getD i default).rd.val : Nat) : Int)) ∧ w.cell? ⟨g, i * 3 + 2, none⟩ = some (.int .i64 (((l.getD i default).wr.val : Nat) : Int)) := by
  obtain ⟨g', e, c0, c1, c2⟩ := h.at i hi
  simp only [Option.some.injEq, Addr.mk.injEq, and_true] at e
  subst e
  have g0 : l.getD i default = l[i] := by rw [List.getD_eq_getElem?_getD, List.getElem?_eq_getElem hi]; rfl
  rw [g0]
  exact ⟨c0, c1, c2⟩
theorem eql_st (s t : St) (w : World) : (binOp .eql 29 (.agg (stc s).toArray) (.agg (stc t).toArray)).run Try.prog w = .ok (.bool (decide (s = t))) w := by
  have h := neq_st (s.who.val : Int) (s.rd.val : Int) (s.wr.val : Int) (t.who.val : Int) (t.rd.val : Int) (t.wr.val : Int) w
  rw [st_eq] at h
  rw [run_neq_struct] at h
  show (binOp .eql 29 (.agg #[.int .i64 (s.who.val : Int), .int .i64 (s.rd.val : Int), .int .i64 (s.wr.val : Int)]) (.agg #[.int .i64 (t.who.val : Int), .int .i64 (t.rd.val : Int), .int .i64 (t.wr.val : Int)])).run Try.prog w = _
  rw [run_eql_struct]
  revert h
  generalize (Op.equalIn 10000 29 (.agg #[.int .i64 (s.who.val : Int), .int .i64 (s.rd.val : Int), .int .i64 (s.wr.val : Int)]) (.agg #[.int .i64 (t.who.val : Int), .int .i64 (t.rd.val : Int), .int .i64 (t.wr.val : Int)])).run Try.prog w = r
  intro h
  cases r with
  | ok b w' =>
    simp only [Result.andThen] at h ⊢
    injection h with h1 h2
    subst h2
    injection h1 with h1
    have : b = decide (s = t) := by
      have := congrArg (!·) h1
      simpa using this
    rw [this]
  | _ => simp [Result.andThen] at h
end Go.Proofs.Ytnikkakeiajmgaa.Pa
