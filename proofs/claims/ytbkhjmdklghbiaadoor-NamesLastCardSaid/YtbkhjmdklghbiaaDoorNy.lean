/- Names: who has heard of all sets a name last. No program. -/
import Derived.Test.YtbkhjmdklghbiaaDoorNw
namespace Go.Proofs.YtbkhjmdklghbiaaDoor.Nm

/-- Node who has counted at least as far as the rows of the nodes ahead of number j, save its own. -/
structure Bd (s : Nat → G) (n who j b : Nat) : Prop where
  ok : ∀ z, z < n → Ok (s z) b
  low : ∀ z, z < j → z ≠ who → ∀ r ∈ (s z).rows, r.count ≤ (s who).count
theorem Bd.start {s : Nat → G} {n b : Nat} (who : Nat) (h : ∀ z, z < n → Ok (s z) b) : Bd s n who 0 b := ⟨h, fun z hz => by omega⟩
theorem Bd.step {s : Nat → G} {n who j b : Nat} (h : Bd s n who j b) (hw : who < n) (hj : j < n) : Bd (upf s who (gmerge (s who) (s j).rows)) n who (j + 1) b := by
  have ow := h.ok who hw
  have oj := h.ok j hj
  obtain ⟨c1, c2⟩ := cmax_ge (s j).rows (s who).count
  refine ⟨fun z hz => ?_, fun z hz hne r hr => ?_⟩
  · by_cases e : z = who
    · subst e; rw [upf_at]; exact ow.gmerge oj.wf oj.rb oj.le
    · rw [upf_ne _ _ _ _ e]; exact h.ok z hz
  · rw [upf_at]
    rw [upf_ne _ _ _ _ hne] at hr
    show r.count ≤ cmax (s who).count (s j).rows
    by_cases e : z = j
    · subst e; exact c2 r hr
    · exact Nat.le_trans (h.low z (by omega) hne r hr) c1
theorem Bd.set {s : Nat → G} {n who b : Nat} (h : Bd s n who n b) (hw : who < n) (t r : Nat) (ht : t < 7) : Bd (upf s who (gset (s who) t r)) n who n (b + 1) := by
  refine ⟨fun z hz => ?_, fun z hz hne x hx => ?_⟩
  · by_cases e : z = who
    · subst e; rw [upf_at]; exact (h.ok z hz).gset ht
    · rw [upf_ne _ _ _ _ e]; exact (h.ok z hz).mono (by omega)
  · rw [upf_at]
    rw [upf_ne _ _ _ _ hne] at hx
    have := h.low z hz hne x hx
    show x.count ≤ (s who).count + 1
    omega
/-- Row ra of a name is the last one; node who has it. -/
structure La (ra : Row) (who : Nat) (s : Nat → G) (n b : Nat) : Prop where
  ok : ∀ z, z < n → Ok (s z) b
  last : ∀ z, z < n → ∀ r ∈ (s z).rows, r.name = ra.name → r = ra ∨ r.count < ra.count
  has : ra ∈ (s who).rows
theorem Bd.la {s : Nat → G} {n who b : Nat} (h : Bd s n who n b) (hw : who < n) (t r : Nat) (ht : t < 7) : La ⟨t, r, (s who).count + 1, (s who).me⟩ who (upf s who (gset (s who) t r)) n (b + 1) := by
  have ow := (h.ok who hw).wf
  refine ⟨(h.set hw t r ht).ok, fun z hz x hx hn => ?_, ?_⟩
  · by_cases e : z = who
    · subst e
      rw [upf_at] at hx
      rcases (mem_rput ow).1 hx with hx | ⟨-, hx⟩
      · exact .inl hx
      · exact absurd hn hx
    · rw [upf_ne _ _ _ _ e] at hx
      have := h.low z hz e x hx
      exact .inr (by show x.count < (s who).count + 1; omega)
  · rw [upf_at]
    exact (mem_rput ow).2 (.inl rfl)
theorem La.step {ra : Row} {who : Nat} {s : Nat → G} {n b : Nat} (h : La ra who s n b) {y : Nat} (hy : y < n) (l : List Row) (hw : WF l) (hb : RB l b) (hl : ∀ r ∈ l, r.name = ra.name → r = ra ∨ r.count < ra.count) (ha : ra ∈ l ∨ ra ∈ (s y).rows) :
    La ra who (upf s y (gmerge (s y) l)) n b ∧ ra ∈ (gmerge (s y) l).rows := by
  have oy := h.ok y hy
  have hl' : ∀ x ∈ l, x.name < 7 := fun x hx => hw.keys' hx
  have hm : ∀ r ∈ (gmerge (s y) l).rows, r.name = ra.name → r = ra ∨ r.count < ra.count := fun r hr hn => by
    rcases mem_rmerge l oy.wf hl' hr with q | q
    · exact h.last y hy r q hn
    · exact hl r q hn
  have hh : ra ∈ (gmerge (s y) l).rows := by
    have : ∃ z ∈ rmerge (s y).rows l, z.name = ra.name ∧ newer z ra = false := by
      rcases ha with q | q
      · exact rmerge_new l oy.wf hl' q
      · exact rmerge_old l oy.wf hl' q
    obtain ⟨z, hz, hn, h2⟩ := this
    rcases hm z hz hn with e | e
    · rw [← e]; exact hz
    · rw [not_newer] at h2; omega
  refine ⟨⟨fun z hz => ?_, fun z hz r hr hn => ?_, ?_⟩, hh⟩
  · by_cases e : z = y
    · subst e; rw [upf_at]; exact oy.gmerge hw hb (Nat.le_refl _)
    · rw [upf_ne _ _ _ _ e]; exact h.ok z hz
  · by_cases e : z = y
    · subst e; rw [upf_at] at hr; exact hm r hr hn
    · rw [upf_ne _ _ _ _ e] at hr; exact h.last z hz r hr hn
  · by_cases e : who = y
    · subst e; rw [upf_at]; exact hh
    · rw [upf_ne _ _ _ _ e]; exact h.has
end Go.Proofs.YtbkhjmdklghbiaaDoor.Nm
