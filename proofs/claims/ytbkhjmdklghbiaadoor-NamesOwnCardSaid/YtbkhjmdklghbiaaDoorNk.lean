/- Names: several nodes in memory (turned from the Gossip's). -/
import Derived.Test.YtbkhjmdklghbiaaDoorNj
namespace Go.Proofs.YtbkhjmdklghbiaaDoor.Nm
open Go Go.RowKit Go.Proofs.YtbkhjmdklghbiaaDoor Go.Proofs.YtbkhjmdklghbiaaDoor.K Go.Proofs.YtbkhjmdklghbiaaDoor.M Go.Proofs.YtbkhjmdklghbiaaDoor.O

def upf {α : Type} (f : Nat → α) (i : Nat) (x : α) : Nat → α := fun k => if k = i then x else f k
theorem upf_at {α : Type} (f : Nat → α) (i : Nat) (x : α) : upf f i x i = x := by simp [upf]
theorem upf_ne {α : Type} (f : Nat → α) (i k : Nat) (x : α) (h : k ≠ i) : upf f i x k = f k := by simp [upf, h]
/-- Some nodes in memory: in blocks from B on, apart from one another and from the blocks of Z. -/
structure Net0 (B : Nat) (Z : List Nat) (n : Nat) (w : World) (F : Nat → List Nat) (g : Nat → Nat) (s : Nat → G) : Prop where
  node : ∀ i, i < n → IsG w (F i) (g i) (s i)
  base : ∀ i, i < n → ∀ x ∈ F i, B ≤ x
  apart : ∀ i j, i < n → j < n → i ≠ j → ∀ x ∈ F i, x ∉ F j
  zed : ∀ i, i < n → ∀ x ∈ F i, x ∉ Z
  zlt : ∀ z ∈ Z, z < w.heap.size
def Net (B : Nat) (Z : List Nat) (n : Nat) (w : World) (g : Nat → Nat) (s : Nat → G) : Prop := ∃ F, Net0 B Z n w F g s
/-- What was changed is none of the blocks of Z and lies from B on. -/
def Far (B : Nat) (Z : List Nat) (w w' : World) : Prop := ∃ S, Upd S w w' ∧ (∀ z ∈ Z, z ∉ S) ∧ ∀ x ∈ S, B ≤ x
theorem Far.refl (B : Nat) (Z : List Nat) (w : World) : Far B Z w w := ⟨[], Upd.refl _ _, fun _ _ h => by (cases h), fun _ h => by cases h⟩
theorem Far.trans {B : Nat} {Z : List Nat} {a b c : World} (h : Far B Z a b) (k : Far B Z b c) : Far B Z a c := by
  obtain ⟨S, u, s1, s2⟩ := h
  obtain ⟨T, v, t1, t2⟩ := k
  refine ⟨S ++ T, (u.mono (T := S ++ T) (fun x hx => .inl (by simp [hx]))).trans v (fun x hx => .inl (by simp [hx])), fun z hz hs => ?_, fun x hx => ?_⟩
  · rcases List.mem_append.1 hs with q | q
    · exact s1 z hz q
    · exact t1 z hz q
  · rcases List.mem_append.1 hx with q | q
    · exact s2 x q
    · exact t2 x q
theorem Far.of_nil {B : Nat} {Z : List Nat} {a b : World} (u : Upd [] a b) : Far B Z a b := ⟨[], u, fun _ _ h => by (cases h), fun _ h => by cases h⟩
theorem Far.upd {B : Nat} {Z : List Nat} {w0 a b : World} (h : Far B Z a b) (hB : B = w0.heap.size) (u : Upd [] w0 a) : Upd [] w0 b := by
  obtain ⟨S, v, _, s2⟩ := h
  exact u.trans v (fun x hx => .inr (by rw [← hB]; exact s2 x hx))
theorem Far.size {B : Nat} {Z : List Nat} {a b : World} (h : Far B Z a b) : a.heap.size ≤ b.heap.size := by
  obtain ⟨S, v, _, _⟩ := h
  exact v.size
theorem Far.own {B b0 : Nat} {Z : List Nat} {a b : World} {e : TypeId} {sz n : Nat} {v : Value} {xs : List Value} (h : Far B Z a b) (ho : a.ownsRow b0 e sz v n xs) (hz : ∀ k, v.ownBlock = some k → k ∈ Z) : b.ownsRow b0 e sz v n xs := by
  obtain ⟨S, u, s1, _⟩ := h
  exact own_upd ho u (fun k hk => s1 k (hz k hk))
theorem Far.mono {B : Nat} {Z Z' : List Nat} {a b : World} (h : Far B Z a b) (hz : ∀ z ∈ Z', z ∈ Z) : Far B Z' a b := by
  obtain ⟨S, u, s1, s2⟩ := h
  exact ⟨S, u, fun z hz' => s1 z (hz z hz'), s2⟩
section
variable {B n : Nat} {Z : List Nat} {w w' : World} {g : Nat → Nat} {s : Nat → G}
theorem Net.nil (B : Nat) (w : World) (g : Nat → Nat) (s : Nat → G) : Net B [] 0 w g s := ⟨fun _ => [], fun i h => by omega, fun i h => by omega, fun i j h => by omega, fun i h => by omega, fun z h => by cases h⟩
/-- One node is changed, all others stay. -/
theorem Net.step (h : Net B Z n w g s) {i : Nat} (hi : i < n) : ∃ F, IsG w F (g i) (s i) ∧ (∀ x ∈ F, x ∉ Z ∧ B ≤ x ∧ x < w.heap.size) ∧
    ∀ w' F' s', IsG w' F' (g i) s' → Fresh w F F' → Upd F w w' → B ≤ w.heap.size → Net B Z n w' g (upf s i s') ∧ Far B Z w w' := by
  obtain ⟨F, h⟩ := h
  refine ⟨F i, h.node i hi, fun x hx => ⟨h.zed i hi x hx, h.base i hi x hx, (h.node i hi).lt hx⟩, fun w' F' s' h1 h2 h3 hB => ⟨⟨upf F i F', ?_, ?_, ?_, ?_, ?_⟩, ⟨F i, h3, fun z hz hs => h.zed i hi z hs hz, h.base i hi⟩⟩⟩
  · intro k hk
    by_cases e : k = i
    · subst e; rw [upf_at, upf_at]; exact h1
    · rw [upf_ne _ _ _ _ e, upf_ne _ _ _ _ e]
      exact (h.node k hk).upd h3 (fun x hx => h.apart i k hi hk (fun q => e q.symm) x hx)
  · intro k hk x hx
    by_cases e : k = i
    · subst e; rw [upf_at] at hx
      rcases h2 x hx with q | q
      · exact h.base _ hi x q
      · omega
    · rw [upf_ne _ _ _ _ e] at hx; exact h.base k hk x hx
  · intro k j hk hj hkj x hx
    by_cases e : k = i
    · subst e
      rw [upf_at] at hx
      rw [upf_ne _ _ _ _ (fun q => hkj q.symm)]
      rcases h2 x hx with q | q
      · exact h.apart _ j hi hj hkj x q
      · intro hxj
        have := (h.node j hj).lt hxj
        omega
    · rw [upf_ne _ _ _ _ e] at hx
      by_cases e' : j = i
      · subst e'
        rw [upf_at]
        intro hxj
        rcases h2 x hxj with q | q
        · exact h.apart k _ hk hi e x hx q
        · have := (h.node k hk).lt hx
          omega
      · rw [upf_ne _ _ _ _ e']; exact h.apart k j hk hj hkj x hx
  · intro k hk x hx
    by_cases e : k = i
    · subst e; rw [upf_at] at hx
      rcases h2 x hx with q | q
      · exact h.zed _ hi x q
      · intro hz
        have := h.zlt x hz
        omega
    · rw [upf_ne _ _ _ _ e] at hx; exact h.zed k hk x hx
  · intro z hz
    have := h.zlt z hz
    have := h3.size
    omega
/-- Other blocks are changed; other blocks are kept apart from now on. -/
theorem Net.turn (h : Net B Z n w g s) {S Z' : List Nat} (u : Upd S w w') (hS : ∀ x ∈ S, x ∈ Z) (hZ : ∀ z ∈ Z', (z ∈ Z ∨ w.heap.size ≤ z) ∧ z < w'.heap.size) : Net B Z' n w' g s := by
  obtain ⟨F, h⟩ := h
  refine ⟨F, fun i hi => (h.node i hi).upd u (fun x hx hf => h.zed i hi x hf (hS x hx)), h.base, h.apart, fun i hi x hx hz => ?_, fun z hz => (hZ z hz).2⟩
  rcases (hZ x hz).1 with q | q
  · exact h.zed i hi x hx q
  · have := (h.node i hi).lt hx
    omega
theorem Net.new (h : Net B Z n w g s) (u : Upd [] w w') : Net B Z n w' g s := h.turn u (fun x hx => by cases hx) (fun z hz => by
  obtain ⟨F, h⟩ := h
  have := h.zlt z hz
  have := u.size
  exact ⟨.inl hz, by omega⟩)
theorem Net.zlt (h : Net B Z n w g s) : ∀ z ∈ Z, z < w.heap.size := by obtain ⟨F, h⟩ := h; exact h.zlt
/-- One node more. -/
theorem Net.add (h : Net B Z n w g s) (u : Upd [] w w') (hB : B ≤ w.heap.size) {F' : List Nat} {g' : Nat} {s' : G} (h1 : IsG w' F' g' s') (h2 : ∀ x ∈ F', w.heap.size ≤ x) : Net B Z (n + 1) w' (upf g n g') (upf s n s') := by
  obtain ⟨F, h⟩ := h
  have ne : ∀ k, k < n + 1 → k ≠ n → k < n := fun k h1 h2 => by omega
  refine ⟨upf F n F', ?_, ?_, ?_, ?_, ?_⟩
  · intro k hk
    by_cases e : k = n
    · subst e; rw [upf_at, upf_at, upf_at]; exact h1
    · rw [upf_ne _ _ _ _ e, upf_ne _ _ _ _ e, upf_ne _ _ _ _ e]; exact (h.node k (ne k hk e)).new u
  · intro k hk x hx
    by_cases e : k = n
    · subst e; rw [upf_at] at hx; have := h2 x hx; omega
    · rw [upf_ne _ _ _ _ e] at hx; exact h.base k (ne k hk e) x hx
  · intro k j hk hj hkj x hx
    by_cases e : k = n
    · subst e
      rw [upf_at] at hx
      rw [upf_ne _ _ _ _ (fun q => hkj q.symm)]
      intro hxj
      have := (h.node j (ne j hj (fun q => hkj q.symm))).lt hxj
      have := h2 x hx
      omega
    · rw [upf_ne _ _ _ _ e] at hx
      by_cases e' : j = n
      · subst e'
        rw [upf_at]
        intro hxj
        have := (h.node k (ne k hk e)).lt hx
        have := h2 x hxj
        omega
      · rw [upf_ne _ _ _ _ e']; exact h.apart k j (ne k hk e) (ne j hj e') hkj x hx
  · intro k hk x hx
    by_cases e : k = n
    · subst e; rw [upf_at] at hx
      intro hz
      have := h.zlt x hz
      have := h2 x hx
      omega
    · rw [upf_ne _ _ _ _ e] at hx; exact h.zed k (ne k hk e) x hx
  · intro z hz
    have := h.zlt z hz
    have := u.size
    omega
theorem Net.ext (h : Net B Z n w g s) {g' : Nat → Nat} {s' : Nat → G} (hg : ∀ i, i < n → g' i = g i) (hs : ∀ i, i < n → s' i = s i) : Net B Z n w g' s' := by
  obtain ⟨F, h⟩ := h
  exact ⟨F, fun i hi => by rw [hg i hi, hs i hi]; exact h.node i hi, h.base, h.apart, h.zed, h.zlt⟩
end
/-- Pointers to nodes. -/
def ptrs (g : Nat → Nat) (n : Nat) : List Value := (List.range n).map (fun i => .pointer (some ⟨g i, 0, none⟩))
theorem ptrs_len (g : Nat → Nat) (n : Nat) : (ptrs g n).length = n := by simp [ptrs]
theorem ptrs_get (g : Nat → Nat) (n i : Nat) (h : i < n) : (ptrs g n)[i]? = some (.pointer (some ⟨g i, 0, none⟩)) := by simp [ptrs, List.getElem?_range h]
theorem ptrs_snoc (g : Nat → Nat) (n x : Nat) : ptrs (upf g n x) (n + 1) = ptrs g n ++ [.pointer (some ⟨x, 0, none⟩)] := by
  simp only [ptrs, List.range_succ, List.map_append, List.map_cons, List.map_nil]
  rw [upf_at]
  congr 1
  exact List.map_congr_left (fun i hi => by rw [upf_ne _ _ _ _ (by have := List.mem_range.1 hi; omega)])
theorem ptrs_one (g : Nat → Nat) (n : Nat) : ∀ u ∈ ptrs g n, u.oneCell' = true := fun u hu => by
  simp [ptrs] at hu
  obtain ⟨i, _, rfl⟩ := hu
  rfl
theorem info28 : (Tryd.prog.info? 28).map (fun i => (i.zero, i.size, i.bytes)) = some (some (.pointer none), 1, 8) := by kernel_rfl
/-- A slice of pointers to nodes. -/
theorem ptr_at {w : World} {b0 : Nat} {v : Value} {n : Nat} {g : Nat → Nat} (h : w.ownsRow b0 28 1 v n (ptrs g n)) {i : Nat} (hi : i < n) :
    ∃ q k, v = .slice (some ⟨q, 0, none⟩) n k ∧ w.cell? ⟨q, i, none⟩ = some (.pointer (some ⟨g i, 0, none⟩)) := by
  obtain ⟨a, k, e, _, _, hc⟩ := own_view h
  obtain ⟨q, rfl, _, c, _⟩ := hc i _ (ptrs_get g n i hi)
  exact ⟨q, k, e, c⟩
end Go.Proofs.YtbkhjmdklghbiaaDoor.Nm
