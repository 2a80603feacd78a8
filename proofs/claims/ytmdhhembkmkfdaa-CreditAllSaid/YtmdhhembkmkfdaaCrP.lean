/- The pool of credit as plain numbers and lists: what its operations do, and what holds of them. No Go and no memory in it. -/
namespace Go.Proofs.Ytmdhhembkmkfdaa.Cr

structure Lane where
  want : Nat
  may : Nat
  used : Nat
deriving DecidableEq

structure Pool where
  room : Nat
  free : Nat
  next : Nat
  lanes : List Lane

def Lane.none : Lane := ⟨0, 0, 0⟩
def Pool.n (p : Pool) : Nat := p.lanes.length
def Pool.lane (p : Pool) (i : Nat) : Lane := p.lanes.getD i Lane.none
def Pool.put (p : Pool) (i : Nat) (x : Lane) : Pool := { p with lanes := p.lanes.set i x }
def Pool.wants (p : Pool) : Nat := (p.lanes.map (·.want)).sum
def Pool.mays (p : Pool) : Nat := (p.lanes.map (·.may)).sum
def Pool.useds (p : Pool) : Nat := (p.lanes.map (·.used)).sum

/-- The first lane, from 'next + j' on, that wants some; so many are still to be asked. -/
def Pool.pick (p : Pool) : Nat → Nat → Option Nat
  | 0, _ => .none
  | d + 1, j => if 0 < (p.lane ((p.next + j) % p.n)).want then some ((p.next + j) % p.n) else p.pick d (j + 1)

def Pool.grant (p : Pool) (k : Nat) : Pool :=
  { room := p.room, free := p.free - 1, next := (k + 1) % p.n, lanes := p.lanes.set k ⟨(p.lane k).want - 1, (p.lane k).may + 1, (p.lane k).used⟩ }

def Pool.share : Nat → Pool → Pool
  | 0, p => p
  | f + 1, p => match p.pick p.n 0 with
    | .none => p
    | some k => Pool.share f (p.grant k)

structure Pool.Inv (p : Pool) : Prop where
  n1 : 1 ≤ p.n
  n8 : p.n ≤ 8
  nx : p.next < p.n
  sum : p.free + p.mays + p.useds = p.room
  r64 : p.room ≤ 64
  w64 : ∀ i, (p.lane i).want ≤ 64

theorem sum_set (f : Lane → Nat) : ∀ (l : List Lane) (i : Nat) (x : Lane), i < l.length → ((l.set i x).map f).sum + f (l.getD i Lane.none) = (l.map f).sum + f x
  | [], i, x, h => by simp at h
  | y :: l, 0, x, h => by simp; omega
  | y :: l, i + 1, x, h => by
    have := sum_set f l i x (by simpa using h)
    simp only [List.set_cons_succ, List.map_cons, List.sum_cons, List.getD_cons_succ]; omega

theorem le_sum (f : Lane → Nat) (h0 : f Lane.none = 0) : ∀ (l : List Lane) (i : Nat), f (l.getD i Lane.none) ≤ (l.map f).sum
  | [], i => by simp [h0]
  | y :: l, 0 => by simp
  | y :: l, i + 1 => by have := le_sum f h0 l i; simp only [List.map_cons, List.sum_cons, List.getD_cons_succ]; omega

theorem sum_zero (f : Lane → Nat) (h0 : f Lane.none = 0) : ∀ (l : List Lane), (∀ i, i < l.length → f (l.getD i Lane.none) = 0) → (l.map f).sum = 0
  | [], _ => rfl
  | y :: l, h => by
    have h1 := h 0 (by simp)
    have h2 := sum_zero f h0 l (fun i hi => by have := h (i + 1) (by simpa using hi); simpa using this)
    simp only [List.map_cons, List.sum_cons]; simp at h1; omega

@[simp] theorem n_put (p : Pool) (i x) : (p.put i x).n = p.n := by simp [Pool.n, Pool.put]
@[simp] theorem n_grant (p : Pool) (k) : (p.grant k).n = p.n := by simp [Pool.n, Pool.grant]
theorem lane_put (p : Pool) (i : Nat) (x : Lane) (hi : i < p.n) (j : Nat) : (p.put i x).lane j = if i = j then x else p.lane j := by
  unfold Pool.lane Pool.put
  simp only [List.getD_eq_getElem?_getD, List.getElem?_set]
  unfold Pool.n at hi
  split
  · simp
  · rfl
theorem lane_grant (p : Pool) (k : Nat) (hk : k < p.n) (j : Nat) : (p.grant k).lane j = if k = j then ⟨(p.lane k).want - 1, (p.lane k).may + 1, (p.lane k).used⟩ else p.lane j := by
  have e : (p.grant k).lane j = (p.put k ⟨(p.lane k).want - 1, (p.lane k).may + 1, (p.lane k).used⟩).lane j := rfl
  rw [e, lane_put p k _ hk]

theorem may_le (p : Pool) (i : Nat) : (p.lane i).may ≤ p.mays := le_sum (·.may) rfl _ _
theorem used_le (p : Pool) (i : Nat) : (p.lane i).used ≤ p.useds := le_sum (·.used) rfl _ _
theorem want_le (p : Pool) (i : Nat) : (p.lane i).want ≤ p.wants := le_sum (·.want) rfl _ _

theorem mays_put (p : Pool) (i : Nat) (x : Lane) (hi : i < p.n) : (p.put i x).mays + (p.lane i).may = p.mays + x.may := sum_set (·.may) p.lanes i x hi
theorem useds_put (p : Pool) (i : Nat) (x : Lane) (hi : i < p.n) : (p.put i x).useds + (p.lane i).used = p.useds + x.used := sum_set (·.used) p.lanes i x hi
theorem wants_put (p : Pool) (i : Nat) (x : Lane) (hi : i < p.n) : (p.put i x).wants + (p.lane i).want = p.wants + x.want := sum_set (·.want) p.lanes i x hi
theorem mays_grant (p : Pool) (k : Nat) (hk : k < p.n) : (p.grant k).mays = p.mays + 1 := by
  have := sum_set (·.may) p.lanes k ⟨(p.lane k).want - 1, (p.lane k).may + 1, (p.lane k).used⟩ hk
  unfold Pool.grant Pool.mays
  simp only [Pool.lane] at this ⊢
  omega
theorem useds_grant (p : Pool) (k : Nat) (hk : k < p.n) : (p.grant k).useds = p.useds := by
  have := sum_set (·.used) p.lanes k ⟨(p.lane k).want - 1, (p.lane k).may + 1, (p.lane k).used⟩ hk
  unfold Pool.grant Pool.useds
  simp only [Pool.lane] at this ⊢
  omega
theorem wants_grant (p : Pool) (k : Nat) (hk : k < p.n) (hw : 0 < (p.lane k).want) : (p.grant k).wants + 1 = p.wants := by
  have := sum_set (·.want) p.lanes k ⟨(p.lane k).want - 1, (p.lane k).may + 1, (p.lane k).used⟩ hk
  unfold Pool.grant Pool.wants
  simp only [Pool.lane] at this hw ⊢
  omega

theorem pick_some (p : Pool) (hn : 1 ≤ p.n) : ∀ d j k, p.pick d j = some k → k < p.n ∧ 0 < (p.lane k).want
  | 0, j, k, h => by simp [Pool.pick] at h
  | d + 1, j, k, h => by
    unfold Pool.pick at h
    split at h
    · rename_i hw
      obtain rfl := Option.some.inj h
      exact ⟨Nat.mod_lt _ (by omega), hw⟩
    · exact pick_some p hn d (j + 1) k h

theorem pick_none (p : Pool) : ∀ d j, p.pick d j = .none → ∀ i, j ≤ i → i < j + d → (p.lane ((p.next + i) % p.n)).want = 0
  | 0, j, _, i, h1, h2 => by omega
  | d + 1, j, h, i, h1, h2 => by
    unfold Pool.pick at h
    split at h
    · simp at h
    · rename_i hw
      by_cases e : i = j
      · subst e; omega
      · exact pick_none p d (j + 1) h i (by omega) (by omega)

theorem pick_none_all (p : Pool) (hx : p.next < p.n) (h : p.pick p.n 0 = .none) : p.wants = 0 := by
  refine sum_zero (·.want) rfl _ (fun i hi => ?_)
  have hi' : i < p.n := hi
  by_cases e : p.next ≤ i
  · have := pick_none p p.n 0 h (i - p.next) (by omega) (by omega)
    rw [show p.next + (i - p.next) = i by omega, Nat.mod_eq_of_lt hi'] at this
    exact this
  · have := pick_none p p.n 0 h (i + p.n - p.next) (by omega) (by omega)
    rw [show p.next + (i + p.n - p.next) = i + p.n by omega, Nat.add_mod_right, Nat.mod_eq_of_lt hi'] at this
    exact this

theorem Inv.grant {p : Pool} (h : p.Inv) {k : Nat} (hk : k < p.n) (hf : 0 < p.free) : (p.grant k).Inv where
  n1 := by simpa using h.n1
  n8 := by simpa using h.n8
  nx := by simp only [n_grant]; exact Nat.mod_lt _ (by omega)
  sum := by
    have := mays_grant p k hk; have := useds_grant p k hk; have := h.sum
    have e : (p.grant k).free = p.free - 1 := rfl
    have e2 : (p.grant k).room = p.room := rfl
    omega
  r64 := h.r64
  w64 := fun i => by
    rw [lane_grant p k hk]; split
    · have := h.w64 k; simp; omega
    · exact h.w64 i

/-- All that 'share' does: it gives out as many as there are, or as are wanted; used ones stay; who wants nothing gets nothing. -/
structure Shared (p q : Pool) : Prop where
  inv : q.Inv
  n : q.n = p.n
  room : q.room = p.room
  free : q.free = p.free - min p.free p.wants
  wants : q.wants = p.wants - min p.free p.wants
  mays : q.mays = p.mays + min p.free p.wants
  useds : q.useds = p.useds
  used : ∀ i, (q.lane i).used = (p.lane i).used
  idle : ∀ i, (p.lane i).want = 0 → q.lane i = p.lane i
  both : ∀ i, (q.lane i).want + (q.lane i).may = (p.lane i).want + (p.lane i).may
  low : ∀ i, (q.lane i).want ≤ (p.lane i).want

theorem share_shared : ∀ (f : Nat) (p : Pool), p.Inv → f = p.free → Shared p (Pool.share f p)
  | 0, p, h, hf => ⟨h, rfl, rfl, by simp only [Pool.share]; omega, by simp only [Pool.share]; omega, by simp only [Pool.share]; omega, rfl, fun _ => rfl, fun _ _ => rfl, fun _ => rfl, fun _ => Nat.le_refl _⟩
  | f + 1, p, h, hf => by
    unfold Pool.share
    cases hp : p.pick p.n 0 with
    | none =>
      have hw := pick_none_all p h.nx hp
      exact ⟨h, rfl, rfl, by simp only; omega, by simp only; omega, by simp only; omega, rfl, fun _ => rfl, fun _ _ => rfl, fun _ => rfl, fun _ => Nat.le_refl _⟩
    | some k =>
      obtain ⟨hk, hw⟩ := pick_some p h.n1 _ _ _ hp
      have e : (p.grant k).free = p.free - 1 := rfl
      have ih := share_shared f (p.grant k) (Inv.grant h hk (by omega)) (by omega)
      have ew := wants_grant p k hk hw
      have em := mays_grant p k hk
      have eu := useds_grant p k hk
      have i1 := ih.free; have i2 := ih.wants; have i3 := ih.mays; have i4 := ih.useds
      have hmin : min p.free p.wants = min (p.grant k).free (p.grant k).wants + 1 := by omega
      refine ⟨ih.inv, ih.n.trans (n_grant p k), ih.room, ?_, ?_, ?_, ?_, fun i => ?_, fun i hi => ?_, fun i => ?_, fun i => ?_⟩
      · simp only; omega
      · simp only; omega
      · simp only; omega
      · simp only; omega
      · show ((Pool.share f (p.grant k)).lane i).used = _
        rw [ih.used i, lane_grant p k hk]; split
        · rename_i e; subst e; rfl
        · rfl
      · have hki : k ≠ i := fun e => by subst e; omega
        show (Pool.share f (p.grant k)).lane i = _
        rw [ih.idle i (by rw [lane_grant p k hk, if_neg hki]; exact hi), lane_grant p k hk, if_neg hki]
      · show ((Pool.share f (p.grant k)).lane i).want + ((Pool.share f (p.grant k)).lane i).may = _
        rw [ih.both i, lane_grant p k hk]; split
        · rename_i e; subst e; simp only; omega
        · rfl
      · show ((Pool.share f (p.grant k)).lane i).want ≤ _
        refine Nat.le_trans (ih.low i) ?_
        rw [lane_grant p k hk]; split
        · rename_i e; subst e; simp only; omega
        · exact Nat.le_refl _

theorem Shared.tight {p q : Pool} (h : Shared p q) : q.free = 0 ∨ q.wants = 0 := by have := h.free; have := h.wants; omega

/-! The operations -/
def Pool.wantOp (p : Pool) (i k : Nat) : Pool := (p.put i ⟨(p.lane i).want + k, (p.lane i).may, (p.lane i).used⟩)
def Pool.useOp (p : Pool) (i : Nat) : Pool := p.put i ⟨(p.lane i).want, (p.lane i).may - 1, (p.lane i).used + 1⟩
def Pool.freeOp (p : Pool) (i : Nat) : Pool := { (p.put i ⟨(p.lane i).want, (p.lane i).may, (p.lane i).used - 1⟩) with free := p.free + 1 }
def Pool.dropOp (p : Pool) (i : Nat) : Pool := { (p.put i ⟨0, 0, 0⟩) with free := p.free + ((p.lane i).may + (p.lane i).used) }
def Pool.shared (p : Pool) : Pool := Pool.share p.free p
def Pool.new (room lanes : Nat) : Pool := { room := room, free := room, next := 0, lanes := List.replicate lanes ⟨0, 0, 0⟩ }

theorem Inv.shared {p : Pool} (h : p.Inv) : Shared p p.shared := share_shared _ p h rfl

theorem Inv.wantOp {p : Pool} (h : p.Inv) {i k : Nat} (hi : i < p.n) (hk : (p.lane i).want + k ≤ 64) : (p.wantOp i k).Inv where
  n1 := by simpa [Pool.wantOp] using h.n1
  n8 := by simpa [Pool.wantOp] using h.n8
  nx := by have := h.nx; simpa [Pool.wantOp, Pool.n, Pool.put] using this
  sum := by
    have := mays_put p i ⟨(p.lane i).want + k, (p.lane i).may, (p.lane i).used⟩ hi
    have := useds_put p i ⟨(p.lane i).want + k, (p.lane i).may, (p.lane i).used⟩ hi
    have := h.sum
    have e : (p.wantOp i k).free = p.free := rfl
    have e2 : (p.wantOp i k).room = p.room := rfl
    unfold Pool.wantOp at *
    simp only at *; omega
  r64 := h.r64
  w64 := fun j => by
    unfold Pool.wantOp; rw [lane_put p i _ hi]; split
    · exact hk
    · exact h.w64 j

theorem Inv.useOp {p : Pool} (h : p.Inv) {i : Nat} (hi : i < p.n) (hm : 0 < (p.lane i).may) : (p.useOp i).Inv where
  n1 := by simpa [Pool.useOp] using h.n1
  n8 := by simpa [Pool.useOp] using h.n8
  nx := by have := h.nx; simpa [Pool.useOp, Pool.n, Pool.put] using this
  sum := by
    have := mays_put p i ⟨(p.lane i).want, (p.lane i).may - 1, (p.lane i).used + 1⟩ hi
    have := useds_put p i ⟨(p.lane i).want, (p.lane i).may - 1, (p.lane i).used + 1⟩ hi
    have := h.sum
    have e : (p.useOp i).free = p.free := rfl
    have e2 : (p.useOp i).room = p.room := rfl
    unfold Pool.useOp at *
    simp only at *; omega
  r64 := h.r64
  w64 := fun j => by
    unfold Pool.useOp; rw [lane_put p i _ hi]; split
    · rename_i e; subst e; exact h.w64 i
    · exact h.w64 j

theorem Inv.freeOp {p : Pool} (h : p.Inv) {i : Nat} (hi : i < p.n) (hm : 0 < (p.lane i).used) : (p.freeOp i).Inv where
  n1 := by have := h.n1; simpa [Pool.freeOp, Pool.n, Pool.put] using this
  n8 := by have := h.n8; simpa [Pool.freeOp, Pool.n, Pool.put] using this
  nx := by have := h.nx; simpa [Pool.freeOp, Pool.n, Pool.put] using this
  sum := by
    have := mays_put p i ⟨(p.lane i).want, (p.lane i).may, (p.lane i).used - 1⟩ hi
    have := useds_put p i ⟨(p.lane i).want, (p.lane i).may, (p.lane i).used - 1⟩ hi
    have := h.sum
    have e : (p.freeOp i).free = p.free + 1 := rfl
    have e2 : (p.freeOp i).room = p.room := rfl
    have e3 : (p.freeOp i).mays = (p.put i ⟨(p.lane i).want, (p.lane i).may, (p.lane i).used - 1⟩).mays := rfl
    have e4 : (p.freeOp i).useds = (p.put i ⟨(p.lane i).want, (p.lane i).may, (p.lane i).used - 1⟩).useds := rfl
    simp only at *; omega
  r64 := h.r64
  w64 := fun j => by
    show ((p.put i ⟨(p.lane i).want, (p.lane i).may, (p.lane i).used - 1⟩).lane j).want ≤ 64
    rw [lane_put p i _ hi]; split
    · rename_i e; subst e; exact h.w64 i
    · exact h.w64 j

theorem Inv.dropOp {p : Pool} (h : p.Inv) {i : Nat} (hi : i < p.n) : (p.dropOp i).Inv where
  n1 := by have := h.n1; simpa [Pool.dropOp, Pool.n, Pool.put] using this
  n8 := by have := h.n8; simpa [Pool.dropOp, Pool.n, Pool.put] using this
  nx := by have := h.nx; simpa [Pool.dropOp, Pool.n, Pool.put] using this
  sum := by
    have := mays_put p i ⟨0, 0, 0⟩ hi
    have := useds_put p i ⟨0, 0, 0⟩ hi
    have := h.sum
    have e : (p.dropOp i).free = p.free + ((p.lane i).may + (p.lane i).used) := rfl
    have e2 : (p.dropOp i).room = p.room := rfl
    have e3 : (p.dropOp i).mays = (p.put i ⟨0, 0, 0⟩).mays := rfl
    have e4 : (p.dropOp i).useds = (p.put i ⟨0, 0, 0⟩).useds := rfl
    simp only at *; omega
  r64 := h.r64
  w64 := fun j => by
    show ((p.put i ⟨0, 0, 0⟩).lane j).want ≤ 64
    rw [lane_put p i _ hi]; split
    · simp
    · exact h.w64 j

theorem sum_replicate (f : Lane → Nat) (x : Lane) (h : f x = 0) : ∀ k, ((List.replicate k x).map f).sum = 0
  | 0 => rfl
  | k + 1 => by simp [List.replicate_succ, h]

theorem lane_new (room lanes i : Nat) : (Pool.new room lanes).lane i = ⟨0, 0, 0⟩ := by
  unfold Pool.lane Pool.new
  simp only [List.getD_eq_getElem?_getD, List.getElem?_replicate]
  split <;> rfl

theorem Inv.new {room lanes : Nat} (h1 : room ≤ 64) (h2 : 1 ≤ lanes) (h3 : lanes ≤ 8) : (Pool.new room lanes).Inv where
  n1 := by simp [Pool.n, Pool.new]; omega
  n8 := by simpa [Pool.n, Pool.new] using h3
  nx := by simp [Pool.n, Pool.new]; omega
  sum := by simp [Pool.mays, Pool.useds, Pool.new]
  r64 := h1
  w64 := fun j => by rw [lane_new]; simp

/-- A sum over the first j lanes. -/
def Pool.pre (p : Pool) (f : Lane → Nat) (j : Nat) : Nat := ((p.lanes.take j).map f).sum
theorem pre_zero (p : Pool) (f : Lane → Nat) : p.pre f 0 = 0 := rfl
theorem pre_succ (p : Pool) (f : Lane → Nat) (j : Nat) (h : j < p.n) : p.pre f (j + 1) = p.pre f j + f (p.lane j) := by
  unfold Pool.pre Pool.lane
  rw [List.take_succ_eq_append_getElem h, List.map_append, List.sum_append]
  simp only [List.map_cons, List.map_nil, List.sum_cons, List.sum_nil, List.getD_eq_getElem?_getD]
  rw [List.getElem?_eq_getElem h]; rfl
theorem pre_all (p : Pool) (f : Lane → Nat) : p.pre f p.n = (p.lanes.map f).sum := by unfold Pool.pre Pool.n; rw [List.take_length]
theorem sum_take_le (f : Lane → Nat) : ∀ (l : List Lane) (j : Nat), ((l.take j).map f).sum ≤ (l.map f).sum
  | [], j => by simp
  | x :: l, 0 => by simp
  | x :: l, j + 1 => by have := sum_take_le f l j; simp only [List.take_succ_cons, List.map_cons, List.sum_cons]; omega
theorem pre_le (p : Pool) (f : Lane → Nat) (j : Nat) : p.pre f j ≤ (p.lanes.map f).sum := sum_take_le f p.lanes j
theorem sum_le_mul (f : Lane → Nat) (c : Nat) : ∀ (l : List Lane), (∀ x ∈ l, f x ≤ c) → (l.map f).sum ≤ l.length * c
  | [], _ => by simp
  | x :: l, h => by
    have h1 := h x (by simp)
    have h2 := sum_le_mul f c l (fun y hy => h y (by simp [hy]))
    simp only [List.map_cons, List.sum_cons, List.length_cons, Nat.succ_mul]; omega
theorem Inv.wants {p : Pool} (h : p.Inv) : p.wants ≤ 512 := by
  have := sum_le_mul (·.want) 64 p.lanes (fun x hx => by
    obtain ⟨i, hi, rfl⟩ := List.getElem_of_mem hx
    have := h.w64 i
    unfold Pool.lane at this
    rw [List.getD_eq_getElem?_getD, List.getElem?_eq_getElem hi] at this
    exact this)
  have e : p.lanes.length ≤ 8 := h.n8
  have : p.lanes.length * 64 ≤ 8 * 64 := Nat.mul_le_mul_right _ e
  unfold Pool.wants; omega

end Go.Proofs.Ytmdhhembkmkfdaa.Cr
