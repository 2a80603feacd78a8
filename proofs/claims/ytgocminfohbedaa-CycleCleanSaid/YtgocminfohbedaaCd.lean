/- Knows: some actors, by numbers of any sort. -/
import Derived.Test.YtgocminfohbedaaCc
import Derived.Test.YtgocminfohbedaaJ
import Derived.BigQuiet
namespace Go.Proofs.Ytgocminfohbedaa.Cy
open Go Go.RowKit Go.Proofs.Ytgocminfohbedaa Go.Proofs.Ytgocminfohbedaa.K Go.Proofs.Ytgocminfohbedaa.M Go.Proofs.Ytgocminfohbedaa.O Go.Proofs.Ytgocminfohbedaa.So Go.Proofs.Ytgocminfohbedaa.R

theorem info31 : (Try.prog.info? 31).map (fun i => (i.zero, i.size, i.bytes)) = some (some (.agg #[.int .i64 0, .bool false, .bool false, .slice none 0 0]), 4, 40) := by kernel_rfl
def kvals (p : Know × Value) : List Value := [.int .i64 p.1.ref, .bool p.1.awake, .bool p.1.root, p.2]
def kcells (L : List (Know × Value)) : List Value := L.flatMap kvals
theorem kcells_len : ∀ L : List (Know × Value), (kcells L).length = L.length * 4
  | [] => rfl
  | x :: L => by have := kcells_len L; simp only [kcells, List.flatMap_cons, List.length_append, List.length_cons] at this ⊢; simp only [kvals, List.length_cons, List.length_nil]; omega
theorem kcells_snoc (L : List (Know × Value)) (x : Know × Value) : kcells (L ++ [x]) = kcells L ++ kvals x := by simp [kcells]
def noKV : Know × Value := (noKnow, .slice none 0 0)
theorem kcells_get : ∀ (L : List (Know × Value)) (i : Nat), i < L.length →
    (kcells L)[i * 4]? = some (.int .i64 (L.getD i noKV).1.ref) ∧ (kcells L)[i * 4 + 1]? = some (.bool (L.getD i noKV).1.awake) ∧ (kcells L)[i * 4 + 2]? = some (.bool (L.getD i noKV).1.root) ∧ (kcells L)[i * 4 + 3]? = some (L.getD i noKV).2
  | [], i, h => by simp at h
  | x :: L, 0, _ => by simp [kcells, kvals]
  | x :: L, i + 1, h => by
    have ih := kcells_get L i (by simpa using h)
    simp only [kcells, kvals, List.flatMap_cons, List.getD_cons_succ] at ih ⊢
    refine ⟨?_, ?_, ?_, ?_⟩
    · rw [List.getElem?_append_right (by simp; omega)]; simpa [show (i + 1) * 4 - 4 = i * 4 by omega] using ih.1
    · rw [List.getElem?_append_right (by simp; omega)]; simpa [show (i + 1) * 4 + 1 - 4 = i * 4 + 1 by omega] using ih.2.1
    · rw [List.getElem?_append_right (by simp; omega)]; simpa [show (i + 1) * 4 + 2 - 4 = i * 4 + 2 by omega] using ih.2.2.1
    · rw [List.getElem?_append_right (by simp; omega)]; simpa [show (i + 1) * 4 + 3 - 4 = i * 4 + 3 by omega] using ih.2.2.2
/-- The row of those whom one knows: in a block of its own below M, if there are any. -/
def RefRow (w : World) (v : Value) (xs : List Int) (M : Nat) : Prop := ∃ ra rk, v = .slice ra xs.length rk ∧ IntRow w ra xs ∧ (xs = [] ∨ ∃ r cur, ra = some ⟨r, 0, none⟩ ∧ w.heap[r]? = some (.cells cur 3 (0, 0)) ∧ r < M)
theorem RefRow.keep {w w' : World} {v : Value} {xs : List Int} {M : Nat} (h : RefRow w v xs M) {S : List Nat} (u : Upd S w w') (hs : ∀ r cur, r < M → w.heap[r]? = some (.cells cur 3 (0, 0)) → r ∉ S) {M' : Nat} (hM : M ≤ M') : RefRow w' v xs M' := by
  obtain ⟨ra, rk, e, h1, h2⟩ := h
  rcases h2 with h2 | ⟨r, cur, er, hb, hlt⟩
  · subst h2
    exact ⟨ra, rk, e, fun i hi => by simp at hi, .inl rfl⟩
  · subst er
    have hn := hs r cur hlt hb
    exact ⟨_, rk, e, introw_keep h1 u hn, .inr ⟨r, cur, rfl, u.blk hb hn, by omega⟩⟩
theorem RefRow.of_own {w : World} {B M : Nat} {v : Value} {xs : List Int} (h : w.ownsRow B 3 1 v xs.length (ints xs)) (hM : w.heap.size ≤ M) : RefRow w v xs M := by
  by_cases c : xs = []
  · subst c
    obtain ⟨a, k, e, -⟩ := own_view h
    exact ⟨a, k, e, fun i hi => by simp at hi, .inl rfl⟩
  · obtain ⟨r, k, cur, e, hb, hr, -⟩ := own_row h c
    exact ⟨_, k, e, hr, .inr ⟨r, cur, rfl, hb, by have := K.blk_lt hb; omega⟩⟩
def RefsAt (w : World) (L : List (Know × Value)) (M : Nat) : Prop := ∀ i, i < L.length → RefRow w (L.getD i noKV).2 (L.getD i noKV).1.refs M ∧ (L.getD i noKV).1.refs.length ≤ 100
theorem RefsAt.keep {w w' : World} {L : List (Know × Value)} {M : Nat} (h : RefsAt w L M) {S : List Nat} (u : Upd S w w') (hs : ∀ r cur, r < M → w.heap[r]? = some (.cells cur 3 (0, 0)) → r ∉ S) {M' : Nat} (hM : M ≤ M') : RefsAt w' L M' := fun i hi => ⟨(h i hi).1.keep u hs hM, (h i hi).2⟩
theorem RefsAt.new {w w' : World} {L : List (Know × Value)} {M : Nat} (h : RefsAt w L M) (u : Upd [] w w') : RefsAt w' L M := h.keep u (fun _ _ _ _ hs => by cases hs) (Nat.le_refl _)
theorem RefsAt.snoc {w : World} {L : List (Know × Value)} {M : Nat} (h : RefsAt w L M) {x : Know × Value} (hx : RefRow w x.2 x.1.refs M) (h1 : x.1.refs.length ≤ 100) : RefsAt w (L ++ [x]) M := fun i hi => by
  by_cases c : i < L.length
  · rw [List.getD_eq_getElem?_getD, List.getElem?_append_left c, ← List.getD_eq_getElem?_getD]
    exact h i c
  · have : i = L.length := by simp at hi; omega
    subst this
    rw [List.getD_eq_getElem?_getD, List.getElem?_append_right (Nat.le_refl _)]
    simpa using ⟨hx, h1⟩
/-- Actors in a row of one's own, as Knows makes them. -/
def KnowsOf (w : World) (B : Nat) (v : Value) (L : List (Know × Value)) : Prop := w.ownsRow B 31 4 v L.length (kcells L) ∧ (∃ M, RefsAt w L M) ∧ L.length ≤ 40 ∧ ∀ i, i < L.length → (L.getD i noKV).1.ref = 1000 + (i : Int)
theorem know_at {w : World} {B n k M : Nat} {a : Option Addr} {L : List (Know × Value)} (h : w.ownsRow B 31 4 (.slice a n k) n (kcells L)) (hR : RefsAt w L M) (_hn : n = L.length) : KnowAt w a (L.map (·.1)) := fun i hi => by
  have hi' : i < L.length := by simpa using hi
  obtain ⟨a', k', e, _, _, hc⟩ := own_view h
  simp only [Value.slice.injEq] at e
  obtain ⟨rfl, _, _⟩ := e
  obtain ⟨d0, d1, d2, d3⟩ := kcells_get L i hi'
  obtain ⟨g, e0, _, c0, _⟩ := hc _ _ d0
  subst e0
  obtain ⟨g', e', _, c1, _⟩ := hc _ _ d1
  cases e'
  obtain ⟨g', e', _, c2, _⟩ := hc _ _ d2
  cases e'
  obtain ⟨g', e', _, c3, _⟩ := hc _ _ d3
  cases e'
  obtain ⟨⟨ra, rk, er, hr, -⟩, hl⟩ := hR i hi'
  have eL : (L.map (·.1)).getD i noKnow = (L.getD i noKV).1 := by
    rw [List.getD_eq_getElem?_getD, List.getD_eq_getElem?_getD, List.getElem?_map, List.getElem?_eq_getElem hi']
    rfl
  rw [eL]
  rw [er] at c3
  exact ⟨g, 0, ra, rk, rfl, by rw [Nat.zero_add]; exact c0, by rw [Nat.zero_add]; exact c1, by rw [Nat.zero_add]; exact c2, by rw [Nat.zero_add]; exact c3, hr, hl⟩
theorem refs_inc {L : List (Know × Value)} (h : ∀ i, i < L.length → (L.getD i noKV).1.ref = 1000 + (i : Int)) : (refsOf (L.map (·.1))).Nodup := by
  have e : refsOf (L.map (·.1)) = (List.range L.length).map (fun i : Nat => 1000 + (i : Int)) := by
    refine List.ext_getElem (by simp [refsOf]) (fun i h1 h2 => ?_)
    have hi : i < L.length := by simpa [refsOf] using h1
    have := h i hi
    rw [List.getD_eq_getElem?_getD, List.getElem?_eq_getElem hi] at this
    simpa [refsOf] using this
  rw [e]
  exact List.Pairwise.map _ (fun a b hab q => hab (by omega)) List.nodup_range
end Go.Proofs.Ytgocminfohbedaa.Cy
