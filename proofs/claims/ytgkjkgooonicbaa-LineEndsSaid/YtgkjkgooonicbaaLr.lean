/- Packets in a row; what Out tells (plain). -/
import Derived.Test.YtgkjkgooonicbaaLm
namespace Go.Proofs.Ytgkjkgooonicbaa.Lm
open Go Go.RowKit Go.Proofs.Ytgkjkgooonicbaa.K Go.Proofs.Ytgkjkgooonicbaa.M Go.Proofs.Ytgkjkgooonicbaa.O

structure Pk where
  seq : Nat
  ack : Nat
  has : Bool
  window : Nat
  body : List Nat
def noPk : Pk := ⟨0, 0, false, 0, []⟩
def pkVals (p : Pk) (v : Value) : List Value := [.int .u32 (p.seq : Int), .int .u32 (p.ack : Int), .bool p.has, .int .i64 (p.window : Int), v]
def pkCells : List Pk → List Value → List Value
  | p :: ps, v :: vs => pkVals p v ++ pkCells ps vs
  | _, _ => []
theorem pkCells_len : ∀ (ps : List Pk) (vs : List Value), vs.length = ps.length → (pkCells ps vs).length = ps.length * 5
  | [], [], _ => rfl
  | p :: ps, v :: vs, h => by
    have := pkCells_len ps vs (by simpa using h)
    simp [pkCells, pkVals, this]; omega
  | [], _ :: _, h => by simp at h
  | _ :: _, [], h => by simp at h
theorem pkCells_snoc (p : Pk) (v : Value) : ∀ (ps : List Pk) (vs : List Value), vs.length = ps.length → pkCells (ps ++ [p]) (vs ++ [v]) = pkCells ps vs ++ pkVals p v
  | [], [], _ => by simp [pkCells]
  | q :: ps, u :: vs, h => by
    have := pkCells_snoc p v ps vs (by simpa using h)
    simp [pkCells, this]
  | [], _ :: _, h => by simp at h
  | _ :: _, [], h => by simp at h
theorem pkCells_append (qs : List Pk) (us : List Value) : ∀ (ps : List Pk) (vs : List Value), vs.length = ps.length → pkCells (ps ++ qs) (vs ++ us) = pkCells ps vs ++ pkCells qs us
  | [], [], _ => by simp [pkCells]
  | q :: ps, u :: vs, h => by
    have := pkCells_append qs us ps vs (by simpa using h)
    simp [pkCells, this]
  | [], _ :: _, h => by simp at h
  | _ :: _, [], h => by simp at h
theorem pkCells_get : ∀ (ps : List Pk) (vs : List Value), vs.length = ps.length → ∀ i, i < ps.length →
    (pkCells ps vs)[i * 5]? = some (.int .u32 ((ps.getD i noPk).seq : Int)) ∧ (pkCells ps vs)[i * 5 + 1]? = some (.int .u32 ((ps.getD i noPk).ack : Int)) ∧ (pkCells ps vs)[i * 5 + 2]? = some (.bool (ps.getD i noPk).has) ∧ (pkCells ps vs)[i * 5 + 3]? = some (.int .i64 ((ps.getD i noPk).window : Int)) ∧ (pkCells ps vs)[i * 5 + 4]? = some (vs.getD i undef)
  | p :: ps, v :: vs, _, 0, _ => by simp [pkCells, pkVals]
  | p :: ps, v :: vs, h, i + 1, hi => by
    have ih := pkCells_get ps vs (by simpa using h) i (by simpa using hi)
    simp only [pkCells, List.getD_cons_succ]
    have hl : (pkVals p v).length = 5 := rfl
    refine ⟨?_, ?_, ?_, ?_, ?_⟩
    · rw [List.getElem?_append_right (by omega), hl, show (i + 1) * 5 - 5 = i * 5 by omega]; exact ih.1
    · rw [List.getElem?_append_right (by omega), hl, show (i + 1) * 5 + 1 - 5 = i * 5 + 1 by omega]; exact ih.2.1
    · rw [List.getElem?_append_right (by omega), hl, show (i + 1) * 5 + 2 - 5 = i * 5 + 2 by omega]; exact ih.2.2.1
    · rw [List.getElem?_append_right (by omega), hl, show (i + 1) * 5 + 3 - 5 = i * 5 + 3 by omega]; exact ih.2.2.2.1
    · rw [List.getElem?_append_right (by omega), hl, show (i + 1) * 5 + 4 - 5 = i * 5 + 4 by omega]; exact ih.2.2.2.2
  | [], _, _, i, h => by simp at h
  | _ :: _, [], h, _, _ => by simp at h
/-- A row of packets of one's own; their bodies. -/
def IsPks (w : World) (B : Nat) (v : Value) (ps : List Pk) : Prop := ∃ us, w.ownsRow B 34 5 v ps.length (pkCells ps us) ∧ Bodies w us (ps.map (·.body))
theorem IsPks.len {w : World} {B : Nat} {v : Value} {ps : List Pk} {us : List Value} (h : Bodies w us (ps.map (·.body))) (_ : w.ownsRow B 34 5 v ps.length (pkCells ps us)) : us.length = ps.length := by have := h.1; simpa using this
theorem IsPks.nil (w : World) (B : Nat) : IsPks w B (.slice none 0 0) [] := ⟨[], World.ownsRow_nil _ _ _ _, Bodies.nil _⟩
theorem IsPks.upd {w w' : World} {B : Nat} {v : Value} {ps : List Pk} {S : List Nat} (h : IsPks w B v ps) (u : Upd S w w') (hs : ∀ k, v.ownBlock = some k → k ∉ S) (n : NoB w S) : IsPks w' B v ps :=
  let ⟨us, h1, h2⟩ := h; ⟨us, own_upd h1 u hs, h2.upd u n⟩
theorem pkVals_one (p : Pk) (v : Value) (h : v.oneCell' = true) : ∀ u ∈ pkVals p v, u.oneCell' = true := fun u hu => by
  simp [pkVals] at hu
  rcases hu with rfl | rfl | rfl | rfl | rfl <;> first | rfl | exact h
theorem pkCells_one : ∀ (ps : List Pk) (vs : List Value), (∀ v ∈ vs, v.oneCell' = true) → ∀ u ∈ pkCells ps vs, u.oneCell' = true
  | p :: ps, v :: vs, h, u, hu => by
    simp only [pkCells] at hu
    rcases List.mem_append.1 hu with q | q
    · exact pkVals_one p v (h v (by simp)) u q
    · exact pkCells_one ps vs (fun x hx => h x (by simp [hx])) u q
  | [], _, _, u, hu => by simp [pkCells] at hu
  | _ :: _, [], _, u, hu => by simp [pkCells] at hu

/-- How many bodies are told. -/
def E.top (e : E) : Nat := min e.kept.length e.limit
def E.say (e : E) (j : Nat) : Pk := ⟨e.base + j, e.want, true, e.window - e.read.length, e.kept.getD j []⟩
/-- The packets of the bodies from number a on, k of them. -/
def E.says (e : E) (a : Nat) : Nat → List Pk
  | 0 => []
  | k + 1 => e.says a k ++ [e.say (a + k)]
theorem E.says_len (e : E) (a : Nat) : ∀ k, (e.says a k).length = k
  | 0 => rfl
  | k + 1 => by simp [E.says, E.says_len e a k]
def E.ans (e : E) : Pk := ⟨e.base + e.kept.length, e.want, false, e.window - e.read.length, []⟩
/-- What Out tells. -/
def E.out (e : E) : List Pk := if e.told < e.top then e.says e.told (e.top - e.told) else if e.owe then [e.ans] else []
/-- The end behind Out. -/
def E.outE (e : E) : E := { e with told := max e.told e.top, owe := false }
end Go.Proofs.Ytgkjkgooonicbaa.Lm
