/- Programs that go on by turns, and the search of all that may come of them, with some asleep. No program of the repository in sight. -/
import Derived.WalkKit
namespace Go.Proofs.Ytklacfdbpmkiiaa.X

structure D where
  kind : Nat
  cell : Nat
  val : Nat
deriving DecidableEq
structure St where
  c : List Nat
  h : List Nat
  a : List Nat
deriving DecidableEq
abbrev Ps := List (List D)
def noD : D := ⟨1, 0, 0⟩
def act (P : Ps) (s : St) (i : Nat) : D := (P.getD i []).getD (s.a.getD i 0) noD
def wr (d : D) : Bool := d.kind == 2 || d.kind == 3
def dep (i : Nat) (d : D) (j : Nat) (e : D) : Bool := i == j || (d.cell == e.cell && (wr d || wr e))
def may (P : Ps) (s : St) (i : Nat) : Bool := decide (s.a.getD i 0 < (P.getD i []).length) && ((act P s i).kind != 4 || s.c.getD (act P s i).cell 0 == (act P s i).val)
def newC (s : St) (i : Nat) (d : D) : List Nat :=
  if d.kind = 2 then s.c.set d.cell (s.h.getD i 0 + d.val) else if d.kind = 3 then s.c.set d.cell (s.c.getD d.cell 0 + d.val) else s.c
def newH (s : St) (i : Nat) (d : D) : List Nat := if d.kind = 1 then s.h.set i (s.c.getD d.cell 0) else s.h
def stp (P : Ps) (s : St) (i : Nat) : St := ⟨newC s i (act P s i), newH s i (act P s i), s.a.set i (s.a.getD i 0 + 1)⟩

theorem set_ne (l : List Nat) {i j : Nat} (v : Nat) (h : i ≠ j) : (l.set i v).getD j 0 = l.getD j 0 := by
  simp [List.getD_eq_getElem?_getD, h]
theorem dep_symm (i : Nat) (d : D) (j : Nat) (e : D) : dep i d j e = dep j e i d := by
  unfold dep
  rw [Bool.beq_comm, Bool.beq_comm (a := d.cell), Bool.or_comm (wr d)]
theorem dep_ne {i j : Nat} {d e : D} (h : dep i d j e = false) : i ≠ j ∧ (d.cell = e.cell → wr d = false ∧ wr e = false) := by
  simp only [dep, Bool.or_eq_false_iff, Bool.and_eq_false_iff, beq_eq_false_iff_ne] at h
  refine ⟨h.1, fun hc => ?_⟩
  rcases h.2 with h | h
  · exact absurd hc h
  · exact h
section
variable (P : Ps) (s : St)
theorem act_ne {i j : Nat} (h : i ≠ j) : act P (stp P s i) j = act P s j := by
  simp only [act, stp]
  rw [set_ne _ _ h]
theorem newC_get {i : Nat} {d : D} {c : Nat} (h : d.cell = c → wr d = false) : (newC s i d).getD c 0 = s.c.getD c 0 := by
  unfold newC
  by_cases e : d.cell = c
  · have := h e
    simp only [wr, Bool.or_eq_false_iff, beq_eq_false_iff_ne] at this
    rw [if_neg this.1, if_neg this.2]
  · split
    · exact set_ne _ _ e
    · split
      · exact set_ne _ _ e
      · rfl
theorem may_ind {i j : Nat} (h : dep i (act P s i) j (act P s j) = false) : may P (stp P s i) j = may P s j := by
  obtain ⟨hne, hc⟩ := dep_ne h
  unfold may
  rw [act_ne P s hne]
  have h1 : (stp P s i).a.getD j 0 = s.a.getD j 0 := set_ne _ _ hne
  have h2 : (stp P s i).c.getD (act P s j).cell 0 = s.c.getD (act P s j).cell 0 := newC_get s (fun e => (hc e).1)
  rw [h1, h2]
theorem newC_comm {i j : Nat} {d e : D} (h : dep i d j e = false) (s1 s2 : St) (h1 : s1.c = newC s i d) (h1' : s1.h = newH s i d) (h2 : s2.c = newC s j e) (h2' : s2.h = newH s j e) : newC s1 j e = newC s2 i d := by
  obtain ⟨hne, hc⟩ := dep_ne h
  by_cases ew : wr e = false
  · have e1 : ∀ t : St, newC t j e = t.c := fun t => by
      simp only [wr, Bool.or_eq_false_iff, beq_eq_false_iff_ne] at ew
      unfold newC; rw [if_neg ew.1, if_neg ew.2]
    rw [e1, h1]
    rw [e1] at h2
    unfold newC
    rw [h2, h2']
    have : (newH s j e).getD i 0 = s.h.getD i 0 := by
      unfold newH; split
      · exact set_ne _ _ (fun q => hne q.symm)
      · rfl
    rw [this]
  · by_cases dw : wr d = false
    · have e1 : ∀ t : St, newC t i d = t.c := fun t => by
        simp only [wr, Bool.or_eq_false_iff, beq_eq_false_iff_ne] at dw
        unfold newC; rw [if_neg dw.1, if_neg dw.2]
      rw [e1, h2]
      rw [e1] at h1
      unfold newC
      rw [h1, h1']
      have : (newH s i d).getD j 0 = s.h.getD j 0 := by
        unfold newH; split
        · exact set_ne _ _ hne
        · rfl
      rw [this]
    · have hcell : d.cell ≠ e.cell := fun q => ew (hc q).2
      have g1 : s1.h.getD j 0 = s.h.getD j 0 := by
        rw [h1']; unfold newH; split
        · exact set_ne _ _ hne
        · rfl
      have g2 : s2.h.getD i 0 = s.h.getD i 0 := by
        rw [h2']; unfold newH; split
        · exact set_ne _ _ (fun q => hne q.symm)
        · rfl
      have k1 : s1.c.getD e.cell 0 = s.c.getD e.cell 0 := by rw [h1]; exact newC_get s (fun q => absurd q hcell)
      have k2 : s2.c.getD d.cell 0 = s.c.getD d.cell 0 := by rw [h2]; exact newC_get s (fun q => absurd q.symm hcell)
      unfold newC at h1 h2 ⊢
      rw [g1, g2, k1, k2, h1, h2]
      split <;> split <;> (try split) <;> (try split) <;> first | rfl | exact List.set_comm _ _ hcell | skip
theorem stp_comm {i j : Nat} (h : dep i (act P s i) j (act P s j) = false) : stp P (stp P s i) j = stp P (stp P s j) i := by
  obtain ⟨hne, hc⟩ := dep_ne h
  have h' : dep j (act P s j) i (act P s i) = false := by rw [dep_symm]; exact h
  show St.mk _ _ _ = St.mk _ _ _
  rw [act_ne P s hne, act_ne P s (fun q => hne q.symm)]
  congr 1
  · exact newC_comm s h _ _ rfl rfl rfl rfl
  · have k1 : (act P s j).kind = 1 → (stp P s i).c.getD (act P s j).cell 0 = s.c.getD (act P s j).cell 0 := fun _ => newC_get s (fun q => (hc q).1)
    have k2 : (act P s i).kind = 1 → (stp P s j).c.getD (act P s i).cell 0 = s.c.getD (act P s i).cell 0 := fun _ => newC_get s (fun q => (hc q.symm).2)
    unfold newH
    by_cases e1 : (act P s j).kind = 1
    · by_cases e2 : (act P s i).kind = 1
      · rw [if_pos e1, if_pos e2, k1 e1, k2 e2]
        show ((newH s i (act P s i)).set _ _) = ((newH s j (act P s j)).set _ _)
        unfold newH
        rw [if_pos e1, if_pos e2]
        exact List.set_comm _ _ hne
      · rw [if_pos e1, if_neg e2, k1 e1]
        show ((newH s i (act P s i)).set _ _) = newH s j (act P s j)
        unfold newH
        rw [if_pos e1, if_neg e2]
    · by_cases e2 : (act P s i).kind = 1
      · rw [if_neg e1, if_pos e2, k2 e2]
        show newH s i (act P s i) = ((newH s j (act P s j)).set _ _)
        unfold newH
        rw [if_neg e1, if_pos e2]
      · rw [if_neg e1, if_neg e2]
        show newH s i (act P s i) = newH s j (act P s j)
        unfold newH
        rw [if_neg e1, if_neg e2]
  · show (s.a.set i _).set j ((s.a.set i _).getD j 0 + 1) = (s.a.set j _).set i ((s.a.set j _).getD i 0 + 1)
    rw [set_ne _ _ hne, set_ne _ _ (fun q => hne q.symm)]
    exact List.set_comm _ _ hne
end
/-- An order, as far as it is one. -/
def runs (P : Ps) : St → List Nat → Option St
  | s, [] => some s
  | s, w :: o => if may P s w then runs P (stp P s w) o else none
theorem runs_cons {P : Ps} {s e : St} {w : Nat} {o : List Nat} (h : runs P s (w :: o) = some e) : may P s w = true ∧ runs P (stp P s w) o = some e := by
  unfold runs at h
  split at h
  · rename_i h1; exact ⟨h1, h⟩
  · cases h
theorem runs_mk {P : Ps} {s e : St} {w : Nat} {o : List Nat} (h1 : may P s w = true) (h : runs P (stp P s w) o = some e) : runs P s (w :: o) = some e := by
  unfold runs; rw [if_pos h1]; exact h
/-- Who could as well go first. -/
def ini (P : Ps) : St → Nat → List Nat → Bool
  | _, _, [] => false
  | s, w, x :: o => if x = w then true else !dep x (act P s x) w (act P s w) && ini P (stp P s x) w o
theorem ini_other {P : Ps} {s : St} {w x : Nat} {o : List Nat} (hne : x ≠ w) (h : ini P s w (x :: o) = true) : dep x (act P s x) w (act P s w) = false ∧ ini P (stp P s x) w o = true := by
  unfold ini at h
  rw [if_neg hne] at h
  simpa using h
theorem ini_mk {P : Ps} {s : St} {w x : Nat} {o : List Nat} (hne : x ≠ w) : ini P s w (x :: o) = (!dep x (act P s x) w (act P s w) && ini P (stp P s x) w o) := by
  show (if x = w then true else _) = _
  rw [if_neg hne]
theorem ini_self (P : Ps) (s : St) (w : Nat) (o : List Nat) : ini P s w (w :: o) = true := by
  show (if w = w then true else _) = _
  rw [if_pos rfl]
theorem erase_ne {x w : Nat} (o : List Nat) (hne : x ≠ w) : (x :: o).erase w = x :: o.erase w := by
  rw [List.erase_cons, if_neg]
  simpa using hne
theorem ini_may {P : Ps} : ∀ {o : List Nat} {s e : St} {w : Nat}, runs P s o = some e → ini P s w o = true → may P s w = true
  | [], s, e, w, _, h => by cases h
  | x :: o, s, e, w, hr, h => by
    obtain ⟨h1, h2⟩ := runs_cons hr
    by_cases hx : x = w
    · subst hx; exact h1
    · obtain ⟨a1, a2⟩ := ini_other hx h
      rw [← may_ind P s a1]
      exact ini_may h2 a2
theorem ini_erase {P : Ps} : ∀ {o : List Nat} {s e : St} {w : Nat}, runs P s o = some e → ini P s w o = true → runs P (stp P s w) (o.erase w) = some e
  | [], s, e, w, _, h => by cases h
  | x :: o, s, e, w, hr, h => by
    obtain ⟨h1, h2⟩ := runs_cons hr
    by_cases hx : x = w
    · subst hx; rw [List.erase_cons_head]; exact h2
    · obtain ⟨a1, a2⟩ := ini_other hx h
      rw [erase_ne o hx]
      have a3 : dep w (act P s w) x (act P s x) = false := by rw [dep_symm]; exact a1
      refine runs_mk (by rw [may_ind P s a3]; exact h1) ?_
      rw [← stp_comm P s a1]
      exact ini_erase h2 a2
theorem ini_dep {P : Ps} : ∀ {o : List Nat} {s : St} {w k : Nat}, ini P s w o = true → ini P s k o = true → w ≠ k → dep k (act P s k) w (act P s w) = false
  | [], s, w, k, h, _, _ => by cases h
  | x :: o, s, w, k, h, h', hne => by
    by_cases hx : x = w
    · subst hx
      have := (ini_other hne h').1
      rw [dep_symm]; exact this
    · by_cases hk : x = k
      · subst hk; exact (ini_other hx h).1
      · obtain ⟨a1, a2⟩ := ini_other hx h
        obtain ⟨b1, b2⟩ := ini_other hk h'
        have := ini_dep a2 b2 hne
        rw [act_ne P s hx, act_ne P s hk] at this
        exact this
theorem ini_past {P : Ps} : ∀ {o : List Nat} {s : St} {w k : Nat}, ini P s w o = true → w ≠ k → dep k (act P s k) w (act P s w) = false → ini P (stp P s w) k (o.erase w) = ini P s k o
  | [], s, w, k, h, _, _ => by cases h
  | x :: o, s, w, k, h, hne, hd => by
    by_cases hx : x = w
    · subst hx
      rw [List.erase_cons_head, ini_mk hne]
      rw [dep_symm] at hd
      rw [hd]; simp
    · rw [erase_ne o hx]
      by_cases hk : x = k
      · subst hk; rw [ini_self, ini_self]
      · obtain ⟨a1, a2⟩ := ini_other hx h
        rw [ini_mk hk, ini_mk hk, act_ne P s (fun q => hx q.symm), act_ne P s hne]
        congr 1
        rw [← stp_comm P s a1]
        exact ini_past a2 hne (by rw [act_ne P s hk, act_ne P s hx]; exact hd)
/-- Orders that are of one kind. -/
def eqv (P : Ps) : St → List Nat → List Nat → Bool
  | _, [], o' => o'.isEmpty
  | s, w :: o, o' => ini P s w o' && eqv P (stp P s w) o (o'.erase w)
theorem eqv_refl (P : Ps) : ∀ (o : List Nat) (s : St), eqv P s o o = true
  | [], _ => rfl
  | w :: o, s => by
    show (ini P s w (w :: o) && eqv P (stp P s w) o ((w :: o).erase w)) = true
    rw [ini_self, List.erase_cons_head, eqv_refl P o]; rfl
theorem eqv_runs {P : Ps} : ∀ {o : List Nat} {s e : St} {o' : List Nat}, eqv P s o o' = true → runs P s o' = some e → runs P s o = some e
  | [], s, e, o', h, hr => by
    have : o' = [] := by simpa [eqv] using h
    subst this; exact hr
  | w :: o, s, e, o', h, hr => by
    have h2 : ini P s w o' = true ∧ eqv P (stp P s w) o (o'.erase w) = true := by simpa [eqv] using h
    exact runs_mk (ini_may hr h2.1) (eqv_runs h2.2 (ini_erase hr h2.1))

/-- The search. -/
def nxt (P : Ps) (s : St) (A : List Bool) (w : Nat) : List Bool := (List.range P.length).map (fun k => A.getD k false && !dep k (act P s k) w (act P s w))
def anyMay (P : Ps) (s : St) : Bool := (List.range P.length).any (may P s)
def goL (rec : St → List Bool → List (List Nat × St)) (P : Ps) (s : St) : List Nat → List Bool → List (List Nat × St)
  | [], _ => []
  | w :: ws, A => if may P s w && !(A.getD w false) then (rec (stp P s w) (nxt P s A w)).map (fun x => (w :: x.1, x.2)) ++ goL rec P s ws (A.set w true) else goL rec P s ws A
def go (P : Ps) : Nat → St → List Bool → List (List Nat × St)
  | 0, s, _ => [([], s)]
  | n + 1, s, A => if anyMay P s then goL (go P n) P s (List.range P.length) A else [([], s)]
/-- What is left to do. -/
def rem (P : Ps) (s : St) : Nat := ((List.range P.length).map (fun i => (P.getD i []).length - s.a.getD i 0)).sum
theorem may_lt {P : Ps} {s : St} {i : Nat} (h : may P s i = true) : s.a.getD i 0 < (P.getD i []).length ∧ i < P.length := by
  have h1 : s.a.getD i 0 < (P.getD i []).length := by
    unfold may at h
    simp only [Bool.and_eq_true, decide_eq_true_eq] at h
    exact h.1
  refine ⟨h1, ?_⟩
  by_cases hi : i < P.length
  · exact hi
  · rw [show P.getD i [] = [] by simp [List.getD_eq_getElem?_getD, List.getElem?_eq_none (Nat.le_of_not_lt hi)]] at h1
    simp at h1
theorem sum_upd {f g : Nat → Nat} : ∀ (l : List Nat) {i : Nat}, l.Nodup → i ∈ l → (∀ j, j ≠ i → g j = f j) → g i + 1 = f i → (l.map g).sum + 1 = (l.map f).sum
  | [], i, _, h, _, _ => by cases h
  | x :: l, i, hn, h, hj, hi => by
    obtain ⟨h1, h2⟩ := List.nodup_cons.1 hn
    simp only [List.map_cons, List.sum_cons]
    by_cases e : x = i
    · subst e
      have : l.map g = l.map f := List.map_congr_left (fun y hy => hj y (fun q => h1 (by rw [← q]; exact hy)))
      rw [this]; omega
    · have hm : i ∈ l := by
        rcases List.mem_cons.1 h with q | q
        · exact absurd q.symm e
        · exact q
      have := sum_upd l h2 hm hj hi
      rw [hj x e]; omega
/-- A state's numbers are there for all. -/
def Wf (P : Ps) (s : St) : Prop := P.length ≤ s.a.length
theorem Wf.stp {P : Ps} {s : St} (h : Wf P s) (i : Nat) : Wf P (stp P s i) := by
  show P.length ≤ (s.a.set i _).length
  rw [List.length_set]; exact h
theorem rem_stp {P : Ps} {s : St} (hw : Wf P s) {i : Nat} (h : may P s i = true) : rem P (stp P s i) + 1 = rem P s := by
  obtain ⟨h1, h2⟩ := may_lt h
  refine sum_upd (List.range P.length) List.nodup_range (List.mem_range.2 h2) (fun j hj => ?_) ?_
  · show _ - (s.a.set i _).getD j 0 = _
    rw [set_ne _ _ (fun q => hj q.symm)]
  · show _ - (s.a.set i _).getD i 0 + 1 = _
    have : (s.a.set i (s.a.getD i 0 + 1)).getD i 0 = s.a.getD i 0 + 1 := by
      have hlt : i < s.a.length := Nat.lt_of_lt_of_le h2 hw
      simp [List.getD_eq_getElem?_getD, List.getElem?_set_self hlt]
    rw [this]; omega
theorem any_may {P : Ps} {s : St} {i : Nat} (h : may P s i = true) : anyMay P s = true :=
  List.any_eq_true.2 ⟨i, List.mem_range.2 (may_lt h).2, h⟩
theorem not_any {P : Ps} {s : St} (h : anyMay P s = false) (i : Nat) : may P s i = false := by
  cases c : may P s i with
  | false => rfl
  | true => rw [any_may c] at h; cases h
theorem rem_zero {P : Ps} {s : St} (hw : Wf P s) (h : rem P s = 0) : anyMay P s = false := by
  cases c : anyMay P s with
  | false => rfl
  | true =>
    obtain ⟨i, _, hi⟩ := List.any_eq_true.1 c
    have := rem_stp hw hi
    omega
theorem nxt_len (P : Ps) (s : St) (A : List Bool) (w : Nat) : (nxt P s A w).length = P.length := by simp [nxt]
theorem nxt_get (P : Ps) (s : St) (A : List Bool) (w k : Nat) (hk : k < P.length) : (nxt P s A w).getD k false = (A.getD k false && !dep k (act P s k) w (act P s w)) := by
  simp only [nxt, List.getD_eq_getElem?_getD, List.getElem?_map, List.getElem?_range hk]; rfl
theorem nxt_out (P : Ps) (s : St) (A : List Bool) (w k : Nat) (hk : ¬ k < P.length) : (nxt P s A w).getD k false = false := by
  simp only [nxt, List.getD_eq_getElem?_getD, List.getElem?_map]
  rw [List.getElem?_eq_none (by simpa using hk)]; rfl
/-- Who is asleep could go on. -/
def Sl (P : Ps) (s : St) (A : List Bool) : Prop := A.length = P.length ∧ ∀ k, A.getD k false = true → may P s k = true
theorem getB_set (A : List Bool) (w k : Nat) (hw : w < A.length) : (A.set w true).getD k false = (decide (w = k) || A.getD k false) := by
  by_cases e : w = k
  · subst e; simp [List.getD_eq_getElem?_getD, List.getElem?_set_self hw]
  · simp [List.getD_eq_getElem?_getD, List.getElem?_set_ne e, e]
theorem Sl.set {P : Ps} {s : St} {A : List Bool} (h : Sl P s A) {w : Nat} (hw : may P s w = true) : Sl P s (A.set w true) :=
  ⟨by rw [List.length_set]; exact h.1, fun k hk => by
    rw [getB_set A w k (by rw [h.1]; exact (may_lt hw).2)] at hk
    by_cases e : w = k
    · subst e; exact hw
    · exact h.2 k (by simpa [e] using hk)⟩
theorem Sl.next {P : Ps} {s : St} {A : List Bool} (h : Sl P s A) (w : Nat) : Sl P (stp P s w) (nxt P s A w) :=
  ⟨nxt_len P s A w, fun k hk => by
    by_cases hl : k < P.length
    · rw [nxt_get P s A w k hl] at hk
      simp only [Bool.and_eq_true, Bool.not_eq_true'] at hk
      rw [may_ind P s (by rw [dep_symm]; exact hk.2)]
      exact h.2 k hk.1
    · rw [nxt_out P s A w k hl] at hk; cases hk⟩
/-- How often an order of one kind with o is found: once, or never if somebody who could go first is asleep. -/
def Cnt (P : Ps) (s : St) (A : List Bool) (o : List Nat) (L : List (List Nat × St)) : Prop :=
  ((∃ k, A.getD k false = true ∧ ini P s k o = true) → L.countP (fun x => eqv P s x.1 o) = 0) ∧ ((∀ k, A.getD k false = true → ini P s k o = false) → L.countP (fun x => eqv P s x.1 o) = 1)
theorem count_map {P : Ps} {s : St} {w : Nat} {o : List Nat} (h : ini P s w o = true) (L : List (List Nat × St)) : (L.map (fun x => (w :: x.1, x.2))).countP (fun x => eqv P s x.1 o) = L.countP (fun x => eqv P (stp P s w) x.1 (o.erase w)) := by
  rw [List.countP_map]
  refine List.countP_congr (fun x _ => ?_)
  simp [eqv, h]
theorem count_map0 {P : Ps} {s : St} {w : Nat} {o : List Nat} (h : ini P s w o = false) (L : List (List Nat × St)) : (L.map (fun x => (w :: x.1, x.2))).countP (fun x => eqv P s x.1 o) = 0 := by
  rw [List.countP_map, List.countP_eq_zero]
  intro x _
  simp [eqv, h]
theorem count_goL {P : Ps} {s e : St} {o : List Nat} (rec : St → List Bool → List (List Nat × St)) (hr : runs P s o = some e)
    (ih : ∀ w A, may P s w = true → ini P s w o = true → Sl P s A → A.getD w false = false → Cnt P (stp P s w) (nxt P s A w) (o.erase w) (rec (stp P s w) (nxt P s A w))) :
    ∀ (ws : List Nat) (A : List Bool), Sl P s A →
    ((∃ k, A.getD k false = true ∧ ini P s k o = true) → (goL rec P s ws A).countP (fun x => eqv P s x.1 o) = 0) ∧
    ((∀ k, A.getD k false = true → ini P s k o = false) → ((∃ w ∈ ws, ini P s w o = true) → (goL rec P s ws A).countP (fun x => eqv P s x.1 o) = 1) ∧ ((∀ w ∈ ws, ini P s w o = false) → (goL rec P s ws A).countP (fun x => eqv P s x.1 o) = 0))
  | [], A, _ => ⟨fun _ => rfl, fun _ => ⟨fun ⟨_, h, _⟩ => (by cases h), fun _ => rfl⟩⟩
  | w :: ws, A, hA => by
    by_cases hc : may P s w = true ∧ A.getD w false = false
    · obtain ⟨hm, ha⟩ := hc
      have e : goL rec P s (w :: ws) A = (rec (stp P s w) (nxt P s A w)).map (fun x => (w :: x.1, x.2)) ++ goL rec P s ws (A.set w true) := by
        show (if (may P s w && !(A.getD w false)) = true then _ else _) = _
        rw [hm, ha]; rfl
      rw [e, List.countP_append]
      have hset : ∀ k, (A.set w true).getD k false = (decide (w = k) || A.getD k false) := fun k => getB_set A w k (by rw [hA.1]; exact (may_lt hm).2)
      obtain ⟨i1, i2⟩ := count_goL rec hr ih ws (A.set w true) (hA.set hm)
      by_cases hi : ini P s w o = true
      · rw [count_map hi]
        obtain ⟨c1, c2⟩ := ih w A hm hi hA ha
        have z2 := i1 ⟨w, by rw [hset]; simp, hi⟩
        rw [z2]
        refine ⟨fun ⟨k, k1, k2⟩ => ?_, fun hn => ⟨fun _ => ?_, fun h => ?_⟩⟩
        · have hwk : w ≠ k := fun q => by subst q; rw [ha] at k1; cases k1
          have hd := ini_dep hi k2 hwk
          rw [c1 ⟨k, by rw [nxt_get P s A w k (by rw [← hA.1]; exact (Classical.not_not.1 fun q => by rw [List.getD_eq_getElem?_getD, List.getElem?_eq_none (Nat.le_of_not_lt q)] at k1; cases k1)), k1, hd]; rfl, by rw [ini_past hi hwk hd]; exact k2⟩]
        · rw [c2 (fun k hk => by
            by_cases hl : k < P.length
            · rw [nxt_get P s A w k hl] at hk
              simp only [Bool.and_eq_true, Bool.not_eq_true'] at hk
              have hwk : w ≠ k := fun q => by subst q; rw [ha] at hk; cases hk.1
              rw [ini_past hi hwk hk.2]
              exact hn k hk.1
            · rw [nxt_out P s A w k hl] at hk; cases hk)]
        · have := h w (by simp); rw [hi] at this; cases this
      · have hi' : ini P s w o = false := by simpa using hi
        rw [count_map0 hi', Nat.zero_add]
        refine ⟨fun ⟨k, k1, k2⟩ => i1 ⟨k, by rw [hset, k1]; simp, k2⟩, fun hn => ?_⟩
        obtain ⟨j1, j2⟩ := i2 (fun k hk => by
          rw [hset] at hk
          by_cases q : w = k
          · subst q; exact hi'
          · exact hn k (by simpa [q] using hk))
        refine ⟨fun ⟨v, hv, hvi⟩ => j1 ?_, fun h => j2 (fun v hv => h v (by simp [hv]))⟩
        rcases List.mem_cons.1 hv with q | q
        · subst q; rw [hi'] at hvi; cases hvi
        · exact ⟨v, q, hvi⟩
    · have e : goL rec P s (w :: ws) A = goL rec P s ws A := by
        show (if _ then _ else _) = _
        rw [if_neg]; intro q; simp at q; exact hc ⟨q.1, by simpa using q.2⟩
      rw [e]
      obtain ⟨i1, i2⟩ := count_goL rec hr ih ws A hA
      refine ⟨i1, fun hn => ?_⟩
      obtain ⟨j1, j2⟩ := i2 hn
      refine ⟨fun ⟨v, hv, hvi⟩ => j1 ?_, fun h => j2 (fun v hv => h v (by simp [hv]))⟩
      rcases List.mem_cons.1 hv with q | q
      · subst q
        have hm := ini_may hr hvi
        have ha : A.getD v false = true := by
          cases c : A.getD v false with
          | true => rfl
          | false => exact absurd ⟨hm, c⟩ hc
        have := hn v ha
        rw [hvi] at this; cases this
      · exact ⟨v, q, hvi⟩
theorem runs_none {P : Ps} {s e : St} {o : List Nat} (hr : runs P s o = some e) (h : anyMay P s = false) : o = [] := by
  cases o with
  | nil => rfl
  | cons w o => have := (runs_cons hr).1; rw [not_any h w] at this; cases this
theorem count {P : Ps} : ∀ (n : Nat) (s : St) (A : List Bool) (o : List Nat) (e : St), rem P s ≤ n → Wf P s → Sl P s A → runs P s o = some e → anyMay P e = false → Cnt P s A o (go P n s A)
  | 0, s, A, o, e, hn, hw, hA, hr, he => by
    have hz := rem_zero hw (by omega)
    obtain rfl := runs_none hr hz
    exact ⟨fun ⟨k, _, h⟩ => (by cases h), fun _ => rfl⟩
  | n + 1, s, A, o, e, hn, hw, hA, hr, he => by
    cases c : anyMay P s with
    | false =>
      obtain rfl := runs_none hr c
      have e : go P (n + 1) s A = [([], s)] := by show (if _ then _ else _) = _; rw [c]; rfl
      rw [e]
      exact ⟨fun ⟨k, _, h⟩ => (by cases h), fun _ => rfl⟩
    | true =>
      have eg : go P (n + 1) s A = goL (go P n) P s (List.range P.length) A := by show (if _ then _ else _) = _; rw [c]; rfl
      rw [eg]
      obtain ⟨i1, i2⟩ := count_goL (go P n) hr (fun w A' hm hi hA' ha => count n _ _ _ e (by have := rem_stp hw hm; omega) (hw.stp w) (hA'.next w) (ini_erase hr hi) he) (List.range P.length) A hA
      refine ⟨i1, fun hn' => (i2 hn').1 ?_⟩
      cases o with
      | nil =>
        have : s = e := by simpa [runs] using hr
        subst this; rw [c] at he; cases he
      | cons w o => exact ⟨w, List.mem_range.2 (may_lt (runs_cons hr).1).2, ini_self P s w o⟩
/-- What is found is an order to an end. -/
theorem found_goL {P : Ps} {s : St} (rec : St → List Bool → List (List Nat × St)) (ih : ∀ w A x, may P s w = true → x ∈ rec (stp P s w) (nxt P s A w) → runs P (stp P s w) x.1 = some x.2 ∧ anyMay P x.2 = false) :
    ∀ (ws : List Nat) (A : List Bool) (x : List Nat × St), x ∈ goL rec P s ws A → runs P s x.1 = some x.2 ∧ anyMay P x.2 = false
  | [], A, x, h => by cases h
  | w :: ws, A, x, h => by
    unfold goL at h
    split at h
    · rename_i hc
      simp only [Bool.and_eq_true, Bool.not_eq_true'] at hc
      rcases List.mem_append.1 h with q | q
      · obtain ⟨y, hy, rfl⟩ := List.mem_map.1 q
        obtain ⟨h1, h2⟩ := ih w A y hc.1 hy
        exact ⟨runs_mk hc.1 h1, h2⟩
      · exact found_goL rec ih ws _ x q
    · exact found_goL rec ih ws A x h
theorem found {P : Ps} : ∀ (n : Nat) (s : St) (A : List Bool) (x : List Nat × St), rem P s ≤ n → Wf P s → x ∈ go P n s A → runs P s x.1 = some x.2 ∧ anyMay P x.2 = false
  | 0, s, A, x, hn, hw, h => by
    have : x = ([], s) := by simpa [go] using h
    subst this; exact ⟨rfl, rem_zero (s := s) hw (Nat.le_zero.1 hn)⟩
  | n + 1, s, A, x, hn, hw, h => by
    cases c : anyMay P s with
    | false =>
      have : x = ([], s) := by simpa [go, c] using h
      subst this; exact ⟨rfl, c⟩
    | true =>
      have eg : go P (n + 1) s A = goL (go P n) P s (List.range P.length) A := by show (if _ then _ else _) = _; rw [c]; rfl
      rw [eg] at h
      exact found_goL (go P n) (fun w A' y hm hy => found n _ _ y (by have := rem_stp hw hm; omega) (hw.stp w) hy) _ _ x h
/-- Some order goes on to an end. -/
theorem some_end {P : Ps} : ∀ (n : Nat) (s : St), rem P s ≤ n → Wf P s → ∃ o e, runs P s o = some e ∧ anyMay P e = false
  | 0, s, hn, hw => ⟨[], s, rfl, rem_zero hw (by omega)⟩
  | n + 1, s, hn, hw => by
    cases c : anyMay P s with
    | false => exact ⟨[], s, rfl, c⟩
    | true =>
      obtain ⟨i, _, hi⟩ := List.any_eq_true.1 c
      obtain ⟨o, e, h1, h2⟩ := some_end n (stp P s i) (by have := rem_stp hw hi; omega) (hw.stp i)
      exact ⟨i :: o, e, runs_mk hi h1, h2⟩
/-- Nobody asleep. -/
def none' (P : Ps) : List Bool := List.replicate P.length false
theorem none_get (P : Ps) (k : Nat) : (none' P).getD k false = false := by
  simp [none', List.getD_eq_getElem?_getD, List.getElem?_replicate]; split <;> rfl
theorem none_sl (P : Ps) (s : St) : Sl P s (none' P) := ⟨by simp [none'], fun k h => by rw [none_get] at h; cases h⟩
theorem count_one {P : Ps} {n : Nat} {s e : St} {o : List Nat} (hn : rem P s ≤ n) (hw : Wf P s) (hr : runs P s o = some e) (he : anyMay P e = false) : (go P n s (none' P)).countP (fun x => eqv P s x.1 o) = 1 :=
  (count n s _ o e hn hw (none_sl P s) hr he).2 (fun k hk => by rw [none_get] at hk; cases hk)
theorem come_to {P : Ps} {n : Nat} {s e : St} {o : List Nat} (hn : rem P s ≤ n) (hw : Wf P s) (hr : runs P s o = some e) (he : anyMay P e = false) : ∃ o', (o', e) ∈ go P n s (none' P) := by
  have h1 := count_one hn hw hr he
  have h2 : 0 < (go P n s (none' P)).countP (fun x => eqv P s x.1 o) := by rw [h1]; exact Nat.one_pos
  obtain ⟨x, hx, hq⟩ := List.countP_pos_iff.1 h2
  have h3 := eqv_runs hq hr
  have h4 := (found n s _ x hn hw hx).1
  rw [h3] at h4
  cases h4
  exact ⟨x.1, hx⟩
theorem count_two {α : Type} (p : α → Bool) (l : List α) (i j : Nat) (hi : i < l.length) (hj : j < l.length) (hij : i < j) (h1 : p l[i] = true) (h2 : p l[j] = true) : 2 ≤ l.countP p := by
  have e : l = l.take j ++ l[j] :: l.drop (j + 1) := by
    rw [← List.drop_eq_getElem_cons hj, List.take_append_drop]
  rw [e, List.countP_append, List.countP_cons_of_pos h2]
  have : 0 < (l.take j).countP p := List.countP_pos_iff.2 ⟨l[i], by rw [List.mem_take_iff_getElem]; exact ⟨i, by omega, rfl⟩, h1⟩
  omega
/-- No two that are found are of one kind. -/
theorem apart {P : Ps} {n : Nat} {s : St} (hn : rem P s ≤ n) (hw : Wf P s) {i j : Nat} (hi : i < (go P n s (none' P)).length) (hj : j < (go P n s (none' P)).length) (hij : i < j) : eqv P s (go P n s (none' P))[i].1 (go P n s (none' P))[j].1 = false := by
  cases c : eqv P s (go P n s (none' P))[i].1 (go P n s (none' P))[j].1 with
  | false => rfl
  | true =>
    obtain ⟨h1, h2⟩ := found n s _ _ hn hw (List.getElem_mem hj)
    have h3 := count_one hn hw h1 h2
    have h4 := count_two (fun x => eqv P s x.1 (go P n s (none' P))[j].1) _ i j hi hj hij c (eqv_refl P _ s)
    omega
/-! Programs of which no two have to do with one another. -/
def Free (P : Ps) : Prop := ∀ s i j, may P s i = true → may P s j = true → i ≠ j → dep i (act P s i) j (act P s j) = false
theorem free_ini {P : Ps} (hf : Free P) : ∀ {o : List Nat} {s e : St} {w : Nat}, runs P s o = some e → anyMay P e = false → may P s w = true → ini P s w o = true
  | [], s, e, w, hr, he, hm => by
    have : s = e := by simpa [runs] using hr
    subst this; rw [any_may hm] at he; cases he
  | x :: o, s, e, w, hr, he, hm => by
    obtain ⟨h1, h2⟩ := runs_cons hr
    by_cases hx : x = w
    · subst hx; exact ini_self P s x o
    · have hd := hf s x w h1 hm hx
      rw [ini_mk hx, hd, free_ini hf h2 he (by rw [may_ind P s hd]; exact hm)]; rfl
theorem free_eqv {P : Ps} (hf : Free P) : ∀ {o : List Nat} {s e o' e'}, runs P s o = some e → anyMay P e = false → runs P s o' = some e' → anyMay P e' = false → eqv P s o o' = true
  | [], s, e, o', e', hr, he, hr', he' => by
    have : s = e := by simpa [runs] using hr
    subst this
    rw [runs_none hr' he]; rfl
  | w :: o, s, e, o', e', hr, he, hr', he' => by
    obtain ⟨h1, h2⟩ := runs_cons hr
    have hi := free_ini hf hr' he' h1
    show (ini P s w o' && eqv P (stp P s w) o (o'.erase w)) = true
    rw [hi, free_eqv hf h2 he (ini_erase hr' hi) he']; rfl
theorem free_one {P : Ps} (hf : Free P) {n : Nat} {s : St} (hn : rem P s ≤ n) (hw : Wf P s) : (go P n s (none' P)).length = 1 := by
  obtain ⟨o, e, h1, h2⟩ := some_end n s hn hw
  rw [← count_one hn hw h1 h2]
  refine (List.countP_eq_length.2 (fun x hx => ?_)).symm
  obtain ⟨h3, h4⟩ := found n s _ x hn hw hx
  exact free_eqv hf h3 h4 h1 h2
/-- Each has a cell of its own, and none waits. -/
theorem free_of {P : Ps} (h : ∀ i k, k < (P.getD i []).length → ((P.getD i []).getD k noD).cell = i) : Free P := fun s i j hi hj hne => by
  have h1 := h i _ (may_lt hi).1
  have h2 := h j _ (may_lt hj).1
  unfold dep
  have e1 : (act P s i).cell = i := h1
  have e2 : (act P s j).cell = j := h2
  rw [e1, e2]
  simp [hne]

/-! Programs that only add. -/
def tot (l : List D) (c : Nat) : Nat := (l.map (fun d => if d.cell = c then d.val else 0)).sum
theorem tot_snoc (l : List D) (d : D) (c : Nat) : tot (l ++ [d]) c = tot l c + if d.cell = c then d.val else 0 := by simp [tot]
theorem take_snoc (l : List D) (a : Nat) (h : a < l.length) : l.take (a + 1) = l.take a ++ [l.getD a noD] := by
  rw [List.take_add_one, List.getD_eq_getElem?_getD, List.getElem?_eq_getElem h]; rfl
theorem sum_add {f g : Nat → Nat} {δ : Nat} : ∀ (l : List Nat) {i : Nat}, l.Nodup → i ∈ l → (∀ j, j ≠ i → g j = f j) → g i = f i + δ → (l.map g).sum = (l.map f).sum + δ
  | [], i, _, h, _, _ => by cases h
  | x :: l, i, hn, h, hj, hi => by
    obtain ⟨h1, h2⟩ := List.nodup_cons.1 hn
    simp only [List.map_cons, List.sum_cons]
    by_cases e : x = i
    · subst e
      have : l.map g = l.map f := List.map_congr_left (fun y hy => hj y (fun q => h1 (by rw [← q]; exact hy)))
      rw [this]; omega
    · have hm : i ∈ l := by
        rcases List.mem_cons.1 h with q | q
        · exact absurd q.symm e
        · exact q
      have := sum_add l h2 hm hj hi
      rw [hj x e]; omega
def sums (P : Ps) (a : List Nat) (c : Nat) : Nat := ((List.range P.length).map (fun i => tot ((P.getD i []).take (a.getD i 0)) c)).sum
/-- All add, and to cells that there are. -/
def Adds (P : Ps) : Prop := P.length ≤ 4 ∧ ∀ l ∈ P, ∀ d ∈ l, d.kind = 3 ∧ d.cell < 4
structure AI (P : Ps) (s : St) : Prop where
  cl : s.c.length = 4
  al : s.a.length = 4
  h : s.h = [0, 0, 0, 0]
  a : ∀ i, s.a.getD i 0 ≤ (P.getD i []).length
  c : ∀ c, c < 4 → s.c.getD c 0 = sums P s.a c
theorem mem_getD {α : Type} (l : List α) (i : Nat) (d : α) (h : i < l.length) : l.getD i d ∈ l := by
  rw [List.getD_eq_getElem?_getD, List.getElem?_eq_getElem h]; exact List.getElem_mem h
theorem act_mem {P : Ps} {s : St} {i : Nat} (h : may P s i = true) : act P s i ∈ P.getD i [] ∧ P.getD i [] ∈ P := by
  obtain ⟨h1, h2⟩ := may_lt h
  exact ⟨mem_getD _ _ _ h1, mem_getD _ _ _ h2⟩
theorem set_eq {l : List Nat} {i : Nat} (v : Nat) (h : i < l.length) : (l.set i v).getD i 0 = v := by
  simp [List.getD_eq_getElem?_getD, List.getElem?_set_self h]
theorem AI.stp {P : Ps} {s : St} (hp : Adds P) (h : AI P s) {i : Nat} (hm : may P s i = true) : AI P (stp P s i) := by
  obtain ⟨h1, h2⟩ := may_lt hm
  obtain ⟨m1, m2⟩ := act_mem hm
  obtain ⟨k3, kc⟩ := hp.2 _ m2 _ m1
  have hi4 : i < s.a.length := by rw [h.al]; exact Nat.lt_of_lt_of_le h2 hp.1
  have ec : (X.stp P s i).c = s.c.set (act P s i).cell (s.c.getD (act P s i).cell 0 + (act P s i).val) := by
    show newC s i (act P s i) = _
    unfold newC; rw [if_neg (by omega), if_pos k3]
  refine ⟨by rw [ec, List.length_set]; exact h.cl, by show (s.a.set i _).length = 4; rw [List.length_set]; exact h.al, ?_, fun j => ?_, fun c hc => ?_⟩
  · show newH s i (act P s i) = _
    unfold newH; rw [if_neg (by omega)]; exact h.h
  · show (s.a.set i _).getD j 0 ≤ _
    by_cases e : i = j
    · subst e; rw [set_eq _ hi4]; omega
    · rw [set_ne _ _ e]; exact h.a j
  · have hs : sums P (X.stp P s i).a c = sums P s.a c + if (act P s i).cell = c then (act P s i).val else 0 := by
      unfold sums
      refine sum_add (List.range P.length) List.nodup_range (List.mem_range.2 h2) (fun j hj => ?_) ?_
      · show tot (List.take ((s.a.set i _).getD j 0) _) c = _
        rw [set_ne _ _ (fun q => hj q.symm)]
      · show tot (List.take ((s.a.set i _).getD i 0) _) c = _
        rw [set_eq _ hi4, take_snoc _ _ h1, tot_snoc]; rfl
    rw [hs, ec]
    by_cases e : (act P s i).cell = c
    · subst e; rw [set_eq _ (by rw [h.cl]; exact kc), if_pos rfl, h.c _ kc]
    · rw [set_ne _ _ e, if_neg e, h.c c hc]; omega
theorem AI.runs {P : Ps} (hp : Adds P) : ∀ {o : List Nat} {s e : St}, AI P s → runs P s o = some e → AI P e
  | [], s, e, h, hr => by
    have : s = e := by simpa [X.runs] using hr
    subst this; exact h
  | w :: o, s, e, h, hr => by
    obtain ⟨h1, h2⟩ := runs_cons hr
    exact AI.runs hp (h.stp hp h1) h2
def zeroSt : St := ⟨[0, 0, 0, 0], [0, 0, 0, 0], [0, 0, 0, 0]⟩
theorem sums_zero (P : Ps) (c : Nat) : sums P [0, 0, 0, 0] c = 0 := by
  unfold sums
  have : (List.range P.length).map (fun i => tot ((P.getD i []).take (([0, 0, 0, 0] : List Nat).getD i 0)) c) = (List.range P.length).map (fun _ => 0) := by
    refine List.map_congr_left (fun i _ => ?_)
    have : ([0, 0, 0, 0] : List Nat).getD i 0 = 0 := by
      match i with
      | 0 | 1 | 2 | 3 => rfl
      | n + 4 => simp
    rw [this, List.take_zero]; rfl
  rw [this]
  generalize List.range P.length = l
  induction l with
  | nil => rfl
  | cons x l ih => rw [List.map_cons, List.sum_cons, ih]
theorem AI.zero (P : Ps) : AI P zeroSt := ⟨rfl, rfl, rfl, fun i => by
    have : zeroSt.a.getD i 0 = 0 := by
      match i with
      | 0 | 1 | 2 | 3 => rfl
      | n + 4 => simp [zeroSt]
    rw [this]; exact Nat.zero_le _, fun c hc => by
    rw [show zeroSt.a = [0, 0, 0, 0] from rfl, sums_zero]
    rcases (show c = 0 ∨ c = 1 ∨ c = 2 ∨ c = 3 by omega) with rfl | rfl | rfl | rfl <;> rfl⟩
/-- How all of them end. -/
def addEnd (P : Ps) : St := ⟨[0, 1, 2, 3].map (fun c => ((List.range P.length).map (fun i => tot (P.getD i []) c)).sum), [0, 0, 0, 0], [0, 1, 2, 3].map (fun i => (P.getD i []).length)⟩
theorem list4 {l : List Nat} (h : l.length = 4) : l = [l.getD 0 0, l.getD 1 0, l.getD 2 0, l.getD 3 0] := by
  match l, h with
  | [a, b, c, d], _ => rfl
theorem add_end {P : Ps} (hp : Adds P) {o : List Nat} {e : St} (hr : runs P zeroSt o = some e) (he : anyMay P e = false) : e = addEnd P := by
  have h := (AI.zero P).runs hp hr
  have ha : ∀ i, e.a.getD i 0 = (P.getD i []).length := fun i => by
    have h1 := h.a i
    have h2 := not_any he i
    by_cases hlt : e.a.getD i 0 < (P.getD i []).length
    · exfalso
      have hi : i < P.length := by
        by_cases hi : i < P.length
        · exact hi
        · rw [show P.getD i [] = [] by simp [List.getD_eq_getElem?_getD, List.getElem?_eq_none (Nat.le_of_not_lt hi)]] at hlt
          simp at hlt
      have hk : (act P e i).kind = 3 := by
        exact (hp.2 (P.getD i []) (mem_getD _ _ _ hi) _ (mem_getD _ _ _ hlt)).1
      have : may P e i = true := by unfold may; rw [hk, decide_eq_true hlt]; rfl
      rw [h2] at this; cases this
    · omega
  have hs : ∀ c, sums P e.a c = ((List.range P.length).map (fun i => tot (P.getD i []) c)).sum := fun c => by
    unfold sums
    congr 1
    refine List.map_congr_left (fun i _ => ?_)
    rw [ha, List.take_length]
  obtain ⟨ec, eh, ea⟩ := e
  show St.mk _ _ _ = St.mk _ _ _
  have h1 := list4 h.cl
  have h2 := list4 h.al
  have h3 := h.h
  have hc0 := h.c 0 (by omega)
  have hc1 := h.c 1 (by omega)
  have hc2 := h.c 2 (by omega)
  have hc3 := h.c 3 (by omega)
  rw [hs] at hc0 hc1 hc2 hc3
  simp only at h1 h2 h3 hc0 hc1 hc2 hc3 ha
  rw [hc0, hc1, hc2, hc3] at h1
  rw [ha, ha, ha, ha] at h2
  rw [h1, h2, h3]
  rfl
/-- What is found is of no great number. -/
theorem len_goL {P : Ps} {s : St} {k : Nat} (rec : St → List Bool → List (List Nat × St)) (ih : ∀ w A, may P s w = true → (rec (stp P s w) A).length ≤ k) : ∀ (ws : List Nat) (A : List Bool), (goL rec P s ws A).length ≤ ws.length * k
  | [], A => by simp [goL]
  | w :: ws, A => by
    unfold goL
    split
    · rename_i hc
      simp only [Bool.and_eq_true, Bool.not_eq_true'] at hc
      have h1 := ih w (nxt P s A w) hc.1
      have h2 := len_goL rec ih ws (A.set w true)
      rw [List.length_append, List.length_map, List.length_cons, Nat.add_mul]; omega
    · have h2 := len_goL rec ih ws A
      rw [List.length_cons, Nat.add_mul]; omega
theorem len_go (P : Ps) (h1 : 1 ≤ P.length) : ∀ (n : Nat) (s : St) (A : List Bool), (go P n s A).length ≤ P.length ^ n
  | 0, s, A => by simp [go]
  | n + 1, s, A => by
    unfold go
    split
    · have := len_goL (go P n) (fun w A' _ => len_go P h1 n (stp P s w) A') (List.range P.length) A
      rw [List.length_range] at this
      rw [Nat.pow_succ, Nat.mul_comm]; exact this
    · have : 1 ≤ P.length ^ (n + 1) := Nat.one_le_pow _ _ h1
      simpa using this
end Go.Proofs.Ytklacfdbpmkiiaa.X
