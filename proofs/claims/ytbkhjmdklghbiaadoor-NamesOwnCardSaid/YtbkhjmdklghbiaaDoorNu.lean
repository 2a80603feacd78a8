/- Names: all hear of all. No program. -/
import Derived.Test.YtbkhjmdklghbiaaDoorNr
namespace Go.Proofs.YtbkhjmdklghbiaaDoor.Nm

def Uni (t : Nat → G) (n : Nat) (x : Row) : Prop := ∃ z, z < n ∧ x ∈ (t z).rows
/-- Nodes s, that began as t: those ahead of number i have heard of all; number i of the first j. -/
def Ag (t s : Nat → G) (n i j : Nat) : Prop := ∀ z, z < n → Ok (s z) 150 ∧ ∃ P, Rep (s z).rows P ∧ (∀ x, P x → Uni t n x) ∧ (∀ x ∈ (t z).rows, P x) ∧ (z < i → ∀ x, Uni t n x → P x) ∧ (z = i → ∀ x, Uni t j x → P x)
theorem Ag.start {s : Nat → G} {n : Nat} (h : ∀ z, z < n → Ok (s z) 150) : Ag s s n 0 0 := fun z hz =>
  ⟨h z hz, _, Rep.self _, fun x hx => ⟨z, hz, hx⟩, fun x hx => hx, fun h => by omega, fun _ x ⟨y, hy, _⟩ => by omega⟩
theorem Ag.ok {t s : Nat → G} {n i j : Nat} (h : Ag t s n i j) {z : Nat} (hz : z < n) : Ok (s z) 150 := (h z hz).1
theorem Ag.step {t s : Nat → G} {n i j : Nat} (h : Ag t s n i j) {x y : Nat} (hx : x < n) (hy : y < n) (j' : Nat) (hj : j' = j ∨ (x = i ∧ y = j ∧ j' = j + 1)) : Ag t (upf s x (gmerge (s x) (s y).rows)) n i j' := fun z hz => by
  obtain ⟨oz, P, p1, p2, p3, p4, p5⟩ := h z hz
  obtain ⟨oy, Q, q1, q2, q3, -, -⟩ := h y hy
  by_cases e : z = x
  · subst e
    rw [upf_at]
    refine ⟨oz.gmerge oy.wf oy.rb oy.le, fun r => P r ∨ Q r, p1.merge q1 oz.wf oy.wf, fun r hr => ?_, fun r hr => .inl (p3 r hr), fun hi r hr => .inl (p4 hi r hr), fun hi r hr => ?_⟩
    · rcases hr with hr | hr
      · exact p2 r hr
      · exact q2 r hr
    · rcases hj with rfl | ⟨h1, h2, rfl⟩
      · exact .inl (p5 hi r hr)
      · obtain ⟨k, hk, hr⟩ := hr
        by_cases e : k = j
        · subst e; subst h2; exact .inr (q3 r hr)
        · exact .inl (p5 hi r ⟨k, by omega, hr⟩)
  · rw [upf_ne _ _ _ _ e]
    refine ⟨oz, P, p1, p2, p3, p4, fun hi r hr => ?_⟩
    rcases hj with rfl | ⟨h1, h2, rfl⟩
    · exact p5 hi r hr
    · exact absurd (hi.trans h1.symm) e
theorem Ag.next {t s : Nat → G} {n i : Nat} (h : Ag t s n i n) : Ag t s n (i + 1) 0 := fun z hz => by
  obtain ⟨oz, P, p1, p2, p3, p4, p5⟩ := h z hz
  refine ⟨oz, P, p1, p2, p3, fun hi r hr => ?_, fun _ r ⟨y, hy, _⟩ => by omega⟩
  by_cases e : z = i
  · exact p5 e r hr
  · exact p4 (by omega) r hr
theorem Ag.rep {t s : Nat → G} {n j : Nat} (h : Ag t s n n j) {z : Nat} (hz : z < n) : Rep (s z).rows (Uni t n) := by
  obtain ⟨oz, P, p1, p2, p3, p4, p5⟩ := h z hz
  exact p1.iff (fun x => ⟨p2 x, p4 hz x⟩)
theorem Ag.all {t s : Nat → G} {n j : Nat} (h : Ag t s n n j) {x y : Nat} (hx : x < n) (hy : y < n) : (s x).rows = (s y).rows := (h.rep hx).unique (h.rep hy) (h.ok hx).wf (h.ok hy).wf
end Go.Proofs.YtbkhjmdklghbiaaDoor.Nm
