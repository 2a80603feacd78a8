/- A region that draws its order and ends in a store: a condition S on the worlds is kept up to the store, not behind it. -/
import Derived.Test.YtklacfdbpmkiiaaO
import Derived.OrdersHeld
import Derived.StillTail
import Derived.Deep.RegionHeld3
namespace Go.Proofs.Ytklacfdbpmkiiaa.J
open Go Go.RowKit

section
variable {P : Program} {ops : Array Oper} {Q : Exit → Act → World → Prop} {md : Region.Mode} {S : World → Prop} {L : Nat}

/-- Whatever order is picked from here on; S holds behind every operation but number L, the last. -/
def wpAnyJ (P : Program) (md : Region.Mode) (ops : Array Oper) (Q : Exit → Act → World → Prop) (S : World → Prop) (L : Nat) : Nat → Array Bool → Act → World → Prop
  | 0, listed, a, w => Region.ready md ops listed = [] ∧ Q .normal a w
  | fuel + 1, listed, a, w =>
    (Region.ready md ops listed = [] → Q .normal a w) ∧
    ∀ i ∈ Region.ready md ops listed, wpOp P ops Q i (fun a' w' => (i ≠ L → S w') ∧ wpAnyJ P md ops Q S L fuel (listed.setIfInBounds i true) a' w') a w

theorem wpAny_of_J : ∀ (fuel : Nat) (listed : Array Bool) (a : Act) (w : World), wpAnyJ P md ops Q S L fuel listed a w → wpAny P md ops Q fuel listed a w
  | 0, _, _, _, h => h
  | fuel + 1, _, _, _, h => ⟨h.1, fun i hi => wpOp_mono (fun a' w' h' => wpAny_of_J fuel _ a' w' h'.2) (h.2 i hi)⟩

/-- Operation L is the last, and waits for all others, if at one or more removes. -/
structure Last (md : Region.Mode) (ops : Array Oper) (L : Nat) : Prop where
  sel : Region.noSelect ops = true
  size : L + 1 = ops.size
  sink : Region.sinkB md ops L = true
theorem Last.not_ready (h : Last md ops L) {listed : Array Bool} (inv : HeadInv md ops L listed) {i : Nat} (hi : i < L) (hun : listed.getD i true = false) : L ∉ Region.ready md ops listed :=
  tail_waits h.sink (List.all_eq_true.2 fun t ht => by have := List.mem_range.1 ht; have := h.size; simp; omega) (by have := h.size; omega) inv _ i rfl hi hun L (Nat.le_refl _)

theorem J_first {i : Nat} {oi : Oper} {v : Value} (hlast : Last md ops L) (hi : ops[i]? = some oi) (hin : i < L)
    (hQ : ∀ c a w, Q (.panic c) (a.put oi.dst v) w → Q (.panic c) a w) :
    ∀ (fuel : Nat) (listed : Array Bool) (a : Act) (w : World), HeadInv md ops L listed →
      (∀ j oj, ops[j]? = some oj → j ≠ i → listed.getD j true = false → (∀ e ∈ oj.after, Region.binds md e = true → e.on ≠ i) → oi.apart ops oj = true) →
      i ∈ Region.ready md ops listed → YieldsIf P ops S oi v a → S w →
      wpAnyJ P md ops Q S L fuel (listed.setIfInBounds i true) (a.put oi.dst v) w → wpAnyJ P md ops Q S L (fuel + 1) listed a w := by
  have hsel := Region.noSelect_spec hlast.sel
  intro fuel
  induction fuel with
  | zero =>
    intro listed a w _ _ hr hy hS H
    refine ⟨fun h => (by rw [h] at hr; cases hr), fun j hj => ?_⟩
    by_cases hji : j = i
    · subst hji; exact hy.wpOp hi hS ⟨fun _ => hS, H⟩
    · have := ready_mono hj hji
      rw [H.1] at this
      cases this
  | succ fuel ih =>
    intro listed a w inv hfree hr hy hS H
    have hun := (mem_ready.1 hr).1
    refine ⟨fun h => (by rw [h] at hr; cases hr), fun j hj => ?_⟩
    by_cases hji : j = i
    · subst hji; exact hy.wpOp hi hS ⟨fun _ => hS, H⟩
    · have h1 := H.2 j (ready_mono hj hji)
      obtain ⟨hjun, oj, hoj, hall⟩ := mem_ready.1 hj
      have hjL : j < L := by
        have h2 : j < ops.size := (Array.getElem?_eq_some_iff.1 hoj).1
        have h3 := hlast.size
        have h4 : j ≠ L := fun e => hlast.not_ready inv hin hun (e ▸ hj)
        omega
      have hnot : ∀ e ∈ oj.after, Region.binds md e = true → e.on ≠ i := fun e he hb heq => by
        have h1 := hall e he hb
        rw [heq, getD_both hun] at h1
        cases h1
      have h2 := wpOp_putIf hoj (hfree j oj hoj hji hjun hnot) (fun cs b => hsel i oi cs b hi) (fun cs b => hsel j oj cs b hoj) hQ hy h1
      have hfree' : ∀ k ok, ops[k]? = some ok → k ≠ i → (listed.setIfInBounds j true).getD k true = false →
          (∀ e ∈ ok.after, Region.binds md e = true → e.on ≠ i) → oi.apart ops ok = true := fun k ok hk hki hun hno => by
        refine hfree k ok hk hki ?_ hno
        by_cases hjk : j = k
        · subst hjk; exact hjun
        · rw [getD_set_ne true hjk] at hun; exact hun
      refine wpOp_mono (fun a' w' h3 => ?_) h2
      obtain ⟨hy', hS', H'⟩ := h3
      rw [Array.setIfInBounds_comm _ _ (Ne.symm hji)] at H'
      exact ⟨hS', ih (listed.setIfInBounds j true) a' w' (inv.set hj hjL) hfree' (ready_mono hr (Ne.symm hji)) hy' (hS' (by omega)) H'⟩

/-- The walk's state: what is listed so far is closed. -/
def Go1 (P : Program) (md : Region.Mode) (ops : Array Oper) (Q : Exit → Act → World → Prop) (S : World → Prop) (L fuel : Nat) (listed : Array Bool) (a : Act) (w : World) : Prop :=
  HeadInv md ops L listed → wpAnyJ P md ops Q S L fuel listed a w

/-- Take number i first. -/
theorem J_take {l : List Oper} {i : Nat} {oi : Oper} {v : Value} {fuel : Nat} {listed : Array Bool} {a : Act} {w : World} (hlast : Last md l.toArray L) (hi : l[i]? = some oi) (hin : i < L)
    (hf : Region.free md l.toArray listed i = true) (hr : (Region.ready md l.toArray listed).contains i = true)
    (hQ : ∀ c a w, Q (.panic c) (a.put oi.dst v) w → Q (.panic c) a w) (hS : S w) (hy : YieldsIf P l.toArray S oi v a)
    (h : Go1 P md l.toArray Q S L fuel (listed.setIfInBounds i true) (a.put oi.dst v) w) : Go1 P md l.toArray Q S L (fuel + 1) listed a w := fun inv => by
  have hi' : l.toArray[i]? = some oi := by simpa using hi
  have hr' : i ∈ Region.ready md l.toArray listed := by simpa using hr
  exact J_first hlast hi' hin hQ fuel listed a w inv (Region.free_spec hi' hf) hr' hy hS (h (inv.set hr' hin))

/-- Number i alone may come up. -/
theorem J_one {l : List Oper} {i : Nat} {oi : Oper} {fuel : Nat} {listed : Array Bool} {a : Act} {w : World} (hi : l[i]? = some oi) (hin : i < L)
    (hr : Region.ready md l.toArray listed = [i])
    (h : ∀ K : Act → World → Prop, Shut (∀ a' w', S w' → Go1 P md l.toArray Q S L fuel (listed.setIfInBounds i true) a' w' → K a' w') → if Region.wanted oi (yielded l.toArray a.tmps) = true then Oper.wp P oi a w K Q else K (a.put oi.dst undef) w) :
    Go1 P md l.toArray Q S L (fuel + 1) listed a w := fun inv => by
  have hi' : l.toArray[i]? = some oi := by simpa using hi
  refine ⟨fun h0 => (by rw [hr] at h0; cases h0), fun j hj => ?_⟩
  have hr' := hj
  rw [hr] at hj
  obtain rfl : j = i := by simpa using hj
  have := h (fun a' w' => (j ≠ L → S w') ∧ wpAnyJ P md l.toArray Q S L fuel (listed.setIfInBounds j true) a' w') (fun a' w' hS hG => ⟨fun _ => hS, hG (inv.set hr' hin)⟩)
  unfold wpOp
  simp only [hi']
  split
  · rename_i hw; rw [if_pos hw] at this; exact .inl this
  · rename_i hw; rw [if_neg hw] at this; exact this

/-- One of two comes up. -/
theorem J_two {l : List Oper} {i j : Nat} {oi oj : Oper} {fuel : Nat} {listed : Array Bool} {a : Act} {w : World} (hi : l[i]? = some oi) (hj : l[j]? = some oj) (hin : i < L) (hjn : j < L)
    (hr : Region.ready md l.toArray listed = [i, j])
    (h1 : ∀ K : Act → World → Prop, Shut (∀ a' w', S w' → Go1 P md l.toArray Q S L fuel (listed.setIfInBounds i true) a' w' → K a' w') → if Region.wanted oi (yielded l.toArray a.tmps) = true then Oper.wp P oi a w K Q else K (a.put oi.dst undef) w)
    (h2 : ∀ K : Act → World → Prop, Shut (∀ a' w', S w' → Go1 P md l.toArray Q S L fuel (listed.setIfInBounds j true) a' w' → K a' w') → if Region.wanted oj (yielded l.toArray a.tmps) = true then Oper.wp P oj a w K Q else K (a.put oj.dst undef) w) :
    Go1 P md l.toArray Q S L (fuel + 1) listed a w := fun inv => by
  have hi' : l.toArray[i]? = some oi := by simpa using hi
  have hj' : l.toArray[j]? = some oj := by simpa using hj
  refine ⟨fun h0 => (by rw [hr] at h0; cases h0), fun k hk => ?_⟩
  have hr' := hk
  rw [hr] at hk
  rcases (show k = i ∨ k = j by simpa using hk) with rfl | rfl
  · have := h1 (fun a' w' => (k ≠ L → S w') ∧ wpAnyJ P md l.toArray Q S L fuel (listed.setIfInBounds k true) a' w') (fun a' w' hS hG => ⟨fun _ => hS, hG (inv.set hr' hin)⟩)
    unfold wpOp
    simp only [hi']
    split
    · rename_i hw; rw [if_pos hw] at this; exact .inl this
    · rename_i hw; rw [if_neg hw] at this; exact this
  · have := h2 (fun a' w' => (k ≠ L → S w') ∧ wpAnyJ P md l.toArray Q S L fuel (listed.setIfInBounds k true) a' w') (fun a' w' hS hG => ⟨fun _ => hS, hG (inv.set hr' hjn)⟩)
    unfold wpOp
    simp only [hj']
    split
    · rename_i hw; rw [if_pos hw] at this; exact .inl this
    · rename_i hw; rw [if_neg hw] at this; exact this

/-- The last one; nothing comes behind it. -/
theorem J_last {l : List Oper} {oi : Oper} {listed : Array Bool} {a : Act} {w : World} (hi : l[L]? = some oi)
    (hr : Region.ready md l.toArray listed = [L]) (hr2 : Region.ready md l.toArray (listed.setIfInBounds L true) = [])
    (h : if Region.wanted oi (yielded l.toArray a.tmps) = true then Oper.wp P oi a w (Q .normal) Q else Q .normal (a.put oi.dst undef) w) :
    Go1 P md l.toArray Q S L 1 listed a w := fun _ => by
  have hi' : l.toArray[L]? = some oi := by simpa using hi
  refine ⟨fun h0 => (by rw [hr] at h0; cases h0), fun j hj => ?_⟩
  rw [hr] at hj
  obtain rfl : j = L := by simpa using hj
  unfold wpOp
  simp only [hi']
  split
  · rename_i hw; rw [if_pos hw] at h; exact .inl (Oper.wp_mono (fun a' w' hq => ⟨fun e => absurd rfl e, hr2, hq⟩) h)
  · rename_i hw; rw [if_neg hw] at h; exact ⟨fun e => absurd rfl e, hr2, h⟩

/-- The beginning. -/
theorem J_begin {l : List Oper} {id : Nat} {a : Act} {w : World} (S : World → Prop) (L : Nat) (hm : P.follows .mixedOrders = true) (hlast : Last .any l.toArray L) (hS : S w.drew)
    (h : Last .any l.toArray L → S w.drew → Go1 P .any l.toArray Q S L (L + 1) (List.replicate (L + 1) false).toArray a w.drew) : (Code.region id l.toArray true).wp P Q a w := by
  refine wp_region_any hm (wpAny_of_J (S := S) (L := L) _ _ _ _ ?_)
  have e : (List.replicate (L + 1) false).toArray = Array.replicate l.toArray.size false := by rw [hlast.size]; simp
  have h' := h hlast hS
  rw [e] at h'
  have h2 := h' ⟨by simp, fun j oj _ hl => (by rw [getD_replicate_false] at hl; cases hl), fun t _ ht => getD_in (by simpa using ht) (getD_replicate_false _ _)⟩
  rw [hlast.size] at h2
  exact h2
end
open Go.Proofs.Ytklacfdbpmkiiaa.K in
/-- 'append' onto a row of the call's own, as a step law of a region that draws. -/
theorem step_app {P : Program} {W : World} {ops : Array Oper} {o : Oper} {a : Act} {K : Act → World → Prop} {Q : Exit → Act → World → Prop} {E : Prop} (hgd : o.guard = none) (s x : Operand) (t : TypeId)
    (ho : o.op = .call { callee := .builtin .append, args := #[s, x], argTypes := #[t, t] })
    (base : Nat) (e : TypeId) (i : TypeInfo) (z : Value) (size bytes : Nat) (ht : P.underlying t = some (.slice e)) (hi : P.info? e = some i) (hz : i.zero = some z)
    (hsize : i.size = size) (hby : i.bytes = bytes) (hzs : z.cells.size = size) (hsz : 0 < size)
    (v : Value) (n : Nat) (xs : List Value) (hs : a.eval s = v) (hown : W.ownsRow base e size v n xs)
    (ad : Addr) (m c : Nat) (news : List Value) (hx : a.eval x = .slice (some ad) m c) (hl : news.length = m * size) (hnews : ∀ j u, news[j]? = some u → W.cell? (ad.add j) = some u) (h1 : ∀ u ∈ news, u.oneCell' = true)
    (h63 : n + m ≤ maxLen) (hbytes : (n + m) * bytes ≤ 140737488355328) (hbase : base ≤ W.heap.size)
    (hK : ∀ v' w', w'.ownsRow base e size v' (n + m) (xs ++ news) → Upd v.ownBlock.toList W w' → (∀ k, v'.ownBlock = some k → v.ownBlock = some k ∨ W.heap.size ≤ k) → K (a.put o.dst v') w') :
    if Region.wanted o (yielded ops a.tmps) = true then Oper.wp P o a W K Q else E := by
  have hw : Region.wanted o (yielded ops a.tmps) = true := by simp [Region.wanted, hgd]
  rw [if_pos hw]
  obtain ⟨v', w', hr, h2, h3, -, h4⟩ := run_append_own_at (P := P) W base t o.type e i z size bytes ht hi hz hsize hby hzs hsz v n xs hown ad m c news hl hnews h1 h63 hbytes hbase
  unfold Oper.wp execOp
  simp only [ho, resolve, invoke, builtin, Sem.run_bind, Sem.run_pure, Result.andThen_ok, List.map_toArray, List.map_cons, List.map_nil, hs, hx, hr]
  refine hK _ _ h2 ((Upd.refl _ W).grown h3 (fun k hk => .inl (by simp [hk]))) (fun k hk => ?_)
  rcases h4 with h4 | h4
  · exact .inl (by rw [← h4]; exact hk)
  · rw [h4] at hk; cases hk; exact .inr (Nat.le_refl _)
end Go.Proofs.Ytklacfdbpmkiiaa.J
