/- Maps with keys of type int: what a map's block holds, as a list of pairs in the order in which the keys came; mlook-ups, stores, deletes. -/
import Derived.Test.YtklacfdbpmkiiaaK
import Derived.MapKept
import Derived.Maps.Own
import Derived.Maps.OwnOps
namespace Go.Proofs.Ytklacfdbpmkiiaa.M
open Go Go.RowKit Go.MapKept Go.Proofs.Ytklacfdbpmkiiaa.K

abbrev Mp := List (Int × Value)
def mlook (m : Mp) (k : Int) : Option Value := (m.find? (fun p => p.1 == k)).map (·.2)
def mput : Mp → Int → Value → Mp
  | [], k, v => [(k, v)]
  | p :: m, k, v => if p.1 = k then (p.1, v) :: m else p :: mput m k v
def mdel : Mp → Int → Mp
  | [], _ => []
  | p :: m, k => if p.1 = k then m else p :: mdel m k

theorem mlook_nil (k : Int) : mlook [] k = none := rfl
theorem mlook_cons (p : Int × Value) (m : Mp) (k : Int) : mlook (p :: m) k = if p.1 = k then some p.2 else mlook m k := by
  unfold mlook
  by_cases h : p.1 = k
  · simp [h]
  · have : (p.1 == k) = false := by simp [h]
    simp [this, h]
theorem mlook_put : ∀ (m : Mp) (k : Int) (v : Value) (j : Int), mlook (mput m k v) j = if k = j then some v else mlook m j
  | [], k, v, j => by simp [mput, mlook_cons, mlook_nil]
  | p :: m, k, v, j => by
    unfold mput
    by_cases h : p.1 = k
    · rw [if_pos h, mlook_cons, mlook_cons]; subst h; simp only
      by_cases hj : p.1 = j <;> simp [hj]
    · rw [if_neg h, mlook_cons, mlook_cons, mlook_put m k v j]
      by_cases hj : p.1 = j
      · rw [if_pos hj, if_pos hj, if_neg (fun e => h (hj.trans e.symm))]
      · rw [if_neg hj, if_neg hj]

/-- Block b is a map that holds m. -/
def IsMap (w : World) (b : Nat) (m : Mp) : Prop := ∃ es clock, w.heap[b]? = some (.map es clock) ∧ es.toList.map (fun e => (e.key, e.val)) = m.map (fun p => (Value.int .i64 p.1, p.2))

theorem IsMap.upd {S : List Nat} {w w' : World} {b : Nat} {m : Mp} (h : IsMap w b m) (u : Upd S w w') (hs : b ∉ S) : IsMap w' b m := by
  obtain ⟨es, c, hb, he⟩ := h; exact ⟨es, c, u.blk hb hs, he⟩
theorem IsMap.drewN {w : World} {b : Nat} {m : Mp} (h : IsMap w b m) (n : Nat) : IsMap (w.drewN n) b m := h
theorem IsMap.alloc {w : World} {b : Nat} {m : Mp} (h : IsMap w b m) (o : Obj) : IsMap (w.alloc o) b m := by
  obtain ⟨es, c, hb, he⟩ := h; exact ⟨es, c, blk_alloc hb o, he⟩
theorem IsMap.lt {w : World} {b : Nat} {m : Mp} (h : IsMap w b m) : b < w.heap.size := by obtain ⟨es, c, hb, he⟩ := h; exact K.blk_lt hb
theorem IsMap.made (w : World) : IsMap (w.alloc (.map #[] 0)) w.heap.size [] := ⟨#[], 0, blk_new w _, rfl⟩
theorem IsMap.ne_cells {w : World} {b g : Nat} {m : Mp} {cs : Array Value} {t : TypeId} {f : Nat × Nat} (h : IsMap w b m) (hg : w.heap[g]? = some (.cells cs t f)) : b ≠ g := fun e => by
  obtain ⟨es, c, hb, _⟩ := h; subst e; rw [hb] at hg; cases hg
theorem IsMap.far {w : World} {b : Nat} {m : Mp} (h : IsMap w b m) {p : Addr} (hp : b ≠ p.block) (v : Value) : IsMap (w.setCell p v) b m := by
  obtain ⟨es, c, hb, he⟩ := h; exact ⟨es, c, blk_far hb hp v, he⟩

theorem keys_of {l : List MapEntry} {m : Mp} (h : l.map (fun e => (e.key, e.val)) = m.map (fun p => (Value.int .i64 p.1, p.2))) : ∀ x ∈ l, IsKey (.int .i64) x.key := by
  intro x hx
  have : (x.key, x.val) ∈ l.map (fun e => (e.key, e.val)) := List.mem_map.2 ⟨x, hx, rfl⟩
  rw [h] at this
  obtain ⟨p, _, hp⟩ := List.mem_map.1 this
  simp only [Prod.mk.injEq] at hp
  rw [← hp.1]; exact rfl

/-- What the search finds: nothing; or the place of the key. -/
theorem find_is (k : Int) : ∀ (l : List MapEntry) (m : Mp) (i : Nat), l.map (fun e => (e.key, e.val)) = m.map (fun p => (Value.int .i64 p.1, p.2)) →
    (Instr.findNow (.int .i64) (.int .i64 k) l i = some none ∧ mlook m k = none ∧ ∀ v, mput m k v = m ++ [(k, v)]) ∨
    ∃ j v, Instr.findNow (.int .i64) (.int .i64 k) l i = some (some (i + j, v)) ∧ mlook m k = some v ∧ j < l.length ∧ (∃ e, l[j]? = some e ∧ e.key = .int .i64 k) ∧ (∀ u, mput m k u = m.set j (k, u)) ∧ mdel m k = m.eraseIdx j
  | [], [], _, _ => .inl ⟨rfl, rfl, fun _ => rfl⟩
  | [], p :: m, _, h => by simp at h
  | e :: l, [], _, h => by simp at h
  | e :: l, p :: m, i, h => by
    simp only [List.map_cons, List.cons.injEq, Prod.mk.injEq] at h
    obtain ⟨⟨hk, hv⟩, ht⟩ := h
    by_cases hp : p.1 = k
    · right
      refine ⟨0, p.2, ?_, by rw [mlook_cons, if_pos hp], by simp, ⟨e, rfl, by rw [hk, hp]⟩, fun u => by simp [mput, hp], by simp [mdel, hp]⟩
      simp [Instr.findNow, Instr.sameNow, hk, hp, hv]
    · have hne : (k == p.1) = false := by simp; exact fun h => hp h.symm
      rcases find_is k l m (i + 1) ht with ⟨h1, h2, h3⟩ | ⟨j, v, h1, h2, h3, h4, h5, h6⟩
      · left
        refine ⟨?_, by rw [mlook_cons, if_neg hp]; exact h2, fun v => by simp [mput, hp, h3 v]⟩
        simp [Instr.findNow, Instr.sameNow, hk, hne, h1]
      · right
        refine ⟨j + 1, v, ?_, by rw [mlook_cons, if_neg hp]; exact h2, by simp; omega, by simpa using h4, fun u => by simp [mput, hp, h5 u], by simp [mdel, hp, h6]⟩
        simp [Instr.findNow, Instr.sameNow, hk, hne, h1]; omega

section
variable {P : Program} {w : World} {b : Nat} {m : Mp} {t kt et : TypeId}

theorem run_look (h : IsMap w b m) (ht : P.underlying t = some (.map kt et)) (hk : P.underlying kt = some (.int .i64)) {z : Value} (hz : (zeroValue et).run P w = .ok z w) (k : Int) :
    (Instr.lookup t (.map (some b)) (.int .i64 k) false).run P w = .ok ((mlook m k).getD z) w ∧
    (Instr.lookup t (.map (some b)) (.int .i64 k) true).run P w = .ok (.tuple #[(mlook m k).getD z, .bool (mlook m k).isSome]) w := by
  obtain ⟨es, c, hb, he⟩ := h
  have h1 := MapKept.run_getObj_map (P := P) hb
  have h2 := run_checkKey (P := P) (w := w) (kt := kt) (k := .int .i64 k) hk rfl es.isEmpty 9999
  rcases find_is k es.toList m 0 he with ⟨f1, f2, _⟩ | ⟨j, v, f1, f2, _⟩
  · have h3 := run_findKey (P := P) (w := w) hk f1
    constructor <;> simp [Instr.lookup, run_underlying ht, Result.andThen, h1, h2, h3, f2, hz]
  · have h3 := run_findKey (P := P) (w := w) hk f1
    constructor <;> simp [Instr.lookup, run_underlying ht, Result.andThen, h1, h2, h3, f2]

theorem upd_set (w : World) (b : Nat) (o : Obj) : Upd [b] w { w with heap := w.heap.setIfInBounds b o } :=
  ⟨rfl, rfl, rfl, by simp, fun k hk hs => by
    have : b ≠ k := fun e => hs (by simp [e])
    simp [this]⟩

theorem run_put (h : IsMap w b m) (ht : P.underlying t = some (.map kt et)) (hk : P.underlying kt = some (.int .i64)) (k : Int) (v : Value) :
    ∃ w', (Instr.mapUpdate t (.map (some b)) (.int .i64 k) v).run P w = .ok () w' ∧ IsMap w' b (mput m k v) ∧ Upd [b] w w' := by
  obtain ⟨es, c, hb, he⟩ := h
  have h1 := MapKept.run_getObj_map (P := P) hb
  have h2 := run_checkKey (P := P) (w := w) (kt := kt) (k := .int .i64 k) hk rfl false 9999
  rcases find_is k es.toList m 0 he with ⟨f1, f2, f3⟩ | ⟨j, v0, f1, f2, f3, ⟨e, f4, f5⟩, f6, _⟩
  · have h3 := run_findKey (P := P) (w := w) hk f1
    refine ⟨_, ?_, ⟨es.push { key := .int .i64 k, val := v, born := c }, c + 1, (heap_set hb).1, ?_⟩, upd_set w b _⟩
    · simp [Instr.mapUpdate, run_underlying ht, Result.andThen, h1, h2, h3, MapKept.run_setObj_map _ hb]
    · rw [f3 v]; simp [he]
  · have h3 := run_findKey (P := P) (w := w) hk f1
    have hj : j < es.size := by simpa using f3
    have he2 : es[j]? = some e := by rw [← Array.getElem?_toList]; exact f4
    have hkey : ((es[j]?).map (·.key)).getD (.int .i64 k) = .int .i64 k := by rw [he2]; exact f5
    refine ⟨_, ?_, ⟨es.modify j fun e => { e with key := .int .i64 k, val := v }, c, (heap_set hb).1, ?_⟩, upd_set w b _⟩
    · simp [Instr.mapUpdate, run_underlying ht, Result.andThen, h1, h2, h3, hkey, Instr.keyThatStays, Instr.sameBits, MapKept.run_setObj_map _ hb]
    · rw [f6 v]
      apply List.ext_getElem?
      intro i
      have hi := congrArg (fun l => l[i]?) he
      simp only [List.getElem?_map, Array.getElem?_toList] at hi
      simp only [List.getElem?_map, Array.getElem?_toList, Array.getElem?_modify, List.getElem?_set]
      have hlen : es.size = m.length := by have := congrArg List.length he; simpa using this
      by_cases hij : j = i
      · subst hij
        have : j < m.length := by omega
        simp [he2, this]
      · simp only [hij, if_false]; exact hi

theorem map_erase {α β : Type} (f : α → β) : ∀ (l : List α) (i : Nat), (l.eraseIdx i).map f = (l.map f).eraseIdx i
  | [], _ => rfl
  | x :: l, 0 => rfl
  | x :: l, i + 1 => by simp [map_erase f l i]

theorem run_del (h : IsMap w b m) (ht : P.underlying t = some (.map kt et)) (hk : P.underlying kt = some (.int .i64)) (ty : TypeId) (k : Int) :
    ∃ w', (Builtin.delete_ #[t, kt] ty #[.map (some b), .int .i64 k]).run P w = .ok (.tuple #[]) w' ∧ IsMap w' b (mdel m k) ∧ Upd [b] w w' := by
  obtain ⟨es, c, hb, he⟩ := h
  have h1 := MapKept.run_getObj_map (P := P) hb
  have h2 := run_checkKey (P := P) (w := w) (kt := kt) (k := .int .i64 k) hk rfl es.isEmpty 9999
  have hdel : ∀ m : Mp, mlook m k = none → mdel m k = m := by
    intro m
    induction m with
    | nil => intro _; rfl
    | cons p m ih =>
      intro hl
      rw [mlook_cons] at hl
      by_cases hp : p.1 = k
      · rw [if_pos hp] at hl; cases hl
      · rw [if_neg hp] at hl; simp [mdel, hp, ih hl]
  rcases find_is k es.toList m 0 he with ⟨f1, f2, f3⟩ | ⟨j, v0, f1, f2, f3, ⟨e, f4, f5⟩, f6, f7⟩
  · have h3 := run_findKey (P := P) (w := w) hk f1
    refine ⟨_, ?_, ⟨es, c, (heap_set hb).1, ?_⟩, upd_set w b _⟩
    · simp [Builtin.delete_, run_underlying ht, Result.andThen, h1, h2, h3, MapKept.run_setObj_map _ hb]
    · rw [hdel m f2]; exact he
  · have h3 := run_findKey (P := P) (w := w) hk f1
    have hj : j < es.size := by simpa using f3
    refine ⟨_, ?_, ⟨es.eraseIdxIfInBounds j, c, (heap_set hb).1, ?_⟩, upd_set w b _⟩
    · simp [Builtin.delete_, run_underlying ht, Result.andThen, h1, h2, h3, MapKept.run_setObj_map _ hb]
    · rw [f7, Array.toList_eraseIdxIfInBounds, map_erase, he, ← map_erase]
end

/-- 'm[k] = v' at its operation. -/
theorem wpList_put {P : Program} {w : World} {ops : Array Oper} {rest : List Oper} {o : Oper} {a : Act} {Q : Exit → Act → World → Prop}
    (hg : o.guard = none) (mo x vo : Operand) (t : TypeId) (hop : o.op = Op.mapUpdate t mo x vo) (kt et : TypeId) (ht : P.underlying t = some (.map kt et)) (hk : P.underlying kt = some (.int .i64))
    (b : Nat) (m : Mp) (hm : a.eval mo = .map (some b)) (h : IsMap w b m) (k : Int) (v : Value) (hx : a.eval x = .int .i64 k) (hv : a.eval vo = v)
    (hK : ∀ w', IsMap w' b (mput m k v) → Upd [b] w w' → wpList P ops Q rest (a.put o.dst undef) w') : wpList P ops Q (o :: rest) a w := by
  refine wpList_plain hg fun K' hK' => ?_
  obtain ⟨w', hrun, r1, r2⟩ := run_put (P := P) h ht hk k v
  unfold Oper.wp
  simp [execOp, hop, hm, hx, hv, hrun, Result.andThen]
  exact hK' _ _ (hK w' r1 r2)

/-- 'delete(m, k)' at its operation. -/
theorem wpList_del {P : Program} {w : World} {ops : Array Oper} {rest : List Oper} {o : Oper} {a : Act} {Q : Exit → Act → World → Prop}
    (hg : o.guard = none) (mo x : Operand) (t kt : TypeId) (hop : o.op = Op.call { callee := Callee.builtin Builtin.delete, args := #[mo, x], argTypes := #[t, kt] }) (et : TypeId) (ht : P.underlying t = some (.map kt et)) (hk : P.underlying kt = some (.int .i64))
    (b : Nat) (m : Mp) (hm : a.eval mo = .map (some b)) (h : IsMap w b m) (k : Int) (hx : a.eval x = .int .i64 k)
    (hK : ∀ w', IsMap w' b (mdel m k) → Upd [b] w w' → wpList P ops Q rest (a.put o.dst (.tuple #[])) w') : wpList P ops Q (o :: rest) a w := by
  refine wpList_plain hg fun K' hK' => ?_
  obtain ⟨w', hrun, r1, r2⟩ := run_del (P := P) h ht hk o.type k
  unfold Oper.wp
  simp [execOp, hop, resolve, invoke, builtin, hm, hx, hrun, Result.andThen]
  exact hK' _ _ (hK w' r1 r2)
end Go.Proofs.Ytklacfdbpmkiiaa.M
