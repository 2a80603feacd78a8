/- Maps with wide keys (arrays, structs) to bools, as sets: what a map's block holds, as a list of keys in the order in which they came. -/
import Derived.Test.YtklacfdbpmkiiaaK
import Derived.MapKept
import Derived.ChangeKeysEq
import Derived.Maps.Own
namespace Go.Proofs.Ytklacfdbpmkiiaa.MS
open Go Go.RowKit Go.MapKept Go.Proofs.Ytklacfdbpmkiiaa.K

/-- Values of Kd are keys of type kt: they can be compared, and are then alike only if they are the same. -/
structure KL (P : Program) (kt : TypeId) (Kd : Value → Prop) : Prop where
  check : ∀ (w : World) (em : Bool) (v : Value), Kd v → (Instr.checkKey em 10000 kt v).run P w = .ok () w
  equal : ∀ (w : World) (x y : Value), Kd x → Kd y → ∃ B : Bool, (Op.equal kt x y).run P w = .ok B w ∧ (B = true ↔ x = y)
  stays : ∀ (w : World) (v : Value), Kd v → (Instr.keyThatStays v v).run P w = .ok v w
  now : ∃ d, P.underlying kt = some d ∧ ∀ (x : Value) (e : MapEntry) (l : List MapEntry) (i : Nat), Kd x → Kd e.key → Instr.findNow d x (e :: l) i = none
section
variable {P : Program} {kt : TypeId} {Kd : Value → Prop}
theorem asking (K : KL P kt Kd) (w : World) (x : Value) (hx : Kd x) : ∀ (es : List MapEntry) (i : Nat), (∀ e ∈ es, Kd e.key) →
    ((Instr.findAsking kt x es i).run P w = .ok none w ∧ ∀ e ∈ es, e.key ≠ x) ∨ ∃ j e, (Instr.findAsking kt x es i).run P w = .ok (some (i + j, e.val)) w ∧ es[j]? = some e ∧ e.key = x
  | [], i, _ => .inl ⟨rfl, fun e h => by cases h⟩
  | e :: es, i, h => by
    obtain ⟨B, h1, h2⟩ := K.equal w x e.key hx (h e (by simp))
    cases B with
    | true =>
      right
      exact ⟨0, e, by simp [Instr.findAsking, h1, Result.andThen], rfl, (h2.1 rfl).symm⟩
    | false =>
      have hne : e.key ≠ x := fun q => by have := h2.2 q.symm; cases this
      rcases asking K w x hx es (i + 1) (fun e' h' => h e' (by simp [h'])) with ⟨a1, a2⟩ | ⟨j, e', a1, a2, a3⟩
      · left
        refine ⟨by simp [Instr.findAsking, h1, Result.andThen, a1], fun e' h' => ?_⟩
        rcases List.mem_cons.1 h' with rfl | h'
        · exact hne
        · exact a2 e' h'
      · right
        exact ⟨j + 1, e', by simp [Instr.findAsking, h1, Result.andThen, a1]; omega, by simpa using a2, a3⟩
theorem find_run (K : KL P kt Kd) (w : World) (x : Value) (hx : Kd x) (es : List MapEntry) (h : ∀ e ∈ es, Kd e.key) :
    ((Instr.findKey kt x es).run P w = .ok none w ∧ ∀ e ∈ es, e.key ≠ x) ∨ ∃ j e, (Instr.findKey kt x es).run P w = .ok (some (j, e.val)) w ∧ es[j]? = some e ∧ e.key = x := by
  obtain ⟨d, hd, hn⟩ := K.now
  cases es with
  | nil => exact .inl ⟨by simp [Instr.findKey, run_underlying hd, Result.andThen, Instr.findNow], fun e h => by cases h⟩
  | cons e es =>
    have hf := hn x e es 0 hx (h e (by simp))
    have hr : (Instr.findKey kt x (e :: es)).run P w = (Instr.findAsking kt x (e :: es)).run P w := by simp [Instr.findKey, run_underlying hd, Result.andThen, hf]
    rw [hr]
    rcases asking K w x hx (e :: es) 0 h with a | ⟨j, e', a1, a2, a3⟩
    · exact .inl a
    · exact .inr ⟨j, e', by rw [a1, Nat.zero_add], a2, a3⟩
/-- Block b is a map that holds true at the keys of S, each of which is there once. -/
def IsSet (Kd : Value → Prop) (w : World) (b : Nat) (S : List Value) : Prop := (∀ k ∈ S, Kd k) ∧ ∃ es clock, w.heap[b]? = some (.map es clock) ∧ es.toList.map (fun e => (e.key, e.val)) = S.map (fun k => (k, Value.bool true)) ∧ (es.toList.map (·.born)).Nodup ∧ ∀ e ∈ es.toList, e.born < clock
variable {w w' : World} {b : Nat} {S : List Value}
theorem IsSet.upd {T : List Nat} (h : IsSet Kd w b S) (u : Upd T w w') (hs : b ∉ T) : IsSet Kd w' b S := by
  obtain ⟨hk, es, c, hb, he⟩ := h; exact ⟨hk, es, c, u.blk hb hs, he⟩
theorem IsSet.new (h : IsSet Kd w b S) (u : Upd [] w w') : IsSet Kd w' b S := h.upd u (by simp)
theorem IsSet.lt (h : IsSet Kd w b S) : b < w.heap.size := by obtain ⟨_, es, c, hb, he⟩ := h; exact K.blk_lt hb
theorem IsSet.made (Kd : Value → Prop) (w : World) : IsSet Kd (w.alloc (.map #[] 0)) w.heap.size [] := ⟨fun k h => (by cases h), #[], 0, blk_new w _, rfl, by simp, by simp⟩
theorem IsSet.ne_cells {g : Nat} {cs : Array Value} {t : TypeId} {f : Nat × Nat} (h : IsSet Kd w b S) (hg : w.heap[g]? = some (.cells cs t f)) : b ≠ g := fun e => by
  obtain ⟨_, es, c, hb, _⟩ := h; subst e; rw [hb] at hg; cases hg
theorem entry_key {es : List MapEntry} (he : es.map (fun e => (e.key, e.val)) = S.map (fun k => (k, Value.bool true))) {e : MapEntry} (h : e ∈ es) : e.key ∈ S ∧ e.val = .bool true := by
  have : (e.key, e.val) ∈ es.map (fun e => (e.key, e.val)) := List.mem_map.2 ⟨e, h, rfl⟩
  rw [he] at this
  obtain ⟨k, hk, q⟩ := List.mem_map.1 this
  simp only [Prod.mk.injEq] at q
  exact ⟨by rw [← q.1]; exact hk, q.2.symm⟩
theorem key_entry {es : List MapEntry} (he : es.map (fun e => (e.key, e.val)) = S.map (fun k => (k, Value.bool true))) {k : Value} (h : k ∈ S) : ∃ e ∈ es, e.key = k := by
  have : (k, Value.bool true) ∈ S.map (fun k => (k, Value.bool true)) := List.mem_map.2 ⟨k, h, rfl⟩
  rw [← he] at this
  obtain ⟨e, h1, h2⟩ := List.mem_map.1 this
  simp only [Prod.mk.injEq] at h2
  exact ⟨e, h1, h2.1⟩
variable {t et : TypeId}
theorem run_has (K : KL P kt Kd) (h : IsSet Kd w b S) (ht : P.underlying t = some (.map kt et)) (hz : (zeroValue et).run P w = .ok (.bool false) w) {x : Value} (hx : Kd x) :
    ∃ B : Bool, (Instr.lookup t (.map (some b)) x false).run P w = .ok (.bool B) w ∧ (B = true ↔ x ∈ S) := by
  obtain ⟨hk, es, c, hb, he, hn, hl⟩ := h
  have h1 := MapKept.run_getObj_map (P := P) hb
  have h2 := K.check w es.isEmpty x hx
  rcases find_run K w x hx es.toList (fun e h => hk _ (entry_key he h).1) with ⟨f1, f2⟩ | ⟨j, e, f1, f2, f3⟩
  · refine ⟨false, ?_, ?_⟩
    · simp [Instr.lookup, run_underlying ht, Result.andThen, h1, h2, f1, hz]
    · constructor
      · intro h; cases h
      · intro h
        obtain ⟨e, h3, h4⟩ := key_entry he h
        exact absurd h4 (f2 e h3)
  · have hm := List.mem_of_getElem? f2
    obtain ⟨g1, g2⟩ := entry_key he hm
    refine ⟨true, ?_, ?_⟩
    · simp [Instr.lookup, run_underlying ht, Result.andThen, h1, h2, f1, g2]
    · exact ⟨fun _ => by rw [← f3]; exact g1, fun _ => rfl⟩
theorem upd_set (w : World) (b : Nat) (o : Obj) : Upd [b] w { w with heap := w.heap.setIfInBounds b o } :=
  ⟨rfl, rfl, rfl, by simp, fun k hk hs => by
    have : b ≠ k := fun e => hs (by simp [e])
    simp [this]⟩
theorem run_put (K : KL P kt Kd) (h : IsSet Kd w b S) (ht : P.underlying t = some (.map kt et)) {x : Value} (hx : Kd x) :
    ∃ w' S', (Instr.mapUpdate t (.map (some b)) x (.bool true)).run P w = .ok () w' ∧ IsSet Kd w' b S' ∧ Upd [b] w w' ∧ ((x ∈ S ∧ S' = S) ∨ (x ∉ S ∧ S' = S ++ [x])) := by
  obtain ⟨hk, es, c, hb, he, hn, hl⟩ := h
  have h1 := MapKept.run_getObj_map (P := P) hb
  have h2 := K.check w false x hx
  rcases find_run K w x hx es.toList (fun e h => hk _ (entry_key he h).1) with ⟨f1, f2⟩ | ⟨j, e, f1, f2, f3⟩
  · refine ⟨_, S ++ [x], ?_, ⟨fun k h => ?_, es.push { key := x, val := .bool true, born := c }, c + 1, (heap_set hb).1, ?_, ?_, ?_⟩, upd_set w b _, .inr ⟨fun h => ?_, rfl⟩⟩
    · simp [Instr.mapUpdate, run_underlying ht, Result.andThen, h1, h2, f1, MapKept.run_setObj_map _ hb]
    · rcases List.mem_append.1 h with q | q
      · exact hk k q
      · have : k = x := by simpa using q
        subst this; exact hx
    · simp [he]
    · simp only [Array.toList_push, List.map_append, List.map_cons, List.map_nil]
      rw [List.nodup_append]
      refine ⟨hn, by simp, fun a ha q hq e => ?_⟩
      obtain ⟨e', he', rfl⟩ := List.mem_map.1 ha
      have := hl e' he'
      have : q = c := by simpa using hq
      omega
    · intro e he'
      rw [Array.toList_push] at he'
      rcases List.mem_append.1 he' with q | q
      · have := hl e q; omega
      · have : e = { key := x, val := .bool true, born := c } := by simpa using q
        subst this; simp
    · obtain ⟨e, h3, h4⟩ := key_entry he h
      exact f2 e h3 h4
  · have hj : j < es.size := by
      have := (List.getElem?_eq_some_iff.1 f2).1
      simpa using this
    have he2 : es[j]? = some e := by rw [← Array.getElem?_toList]; exact f2
    have hkey : ((es[j]?).map (·.key)).getD x = x := by rw [he2]; exact f3
    have hst := K.stays w x hx
    have hm := List.mem_of_getElem? f2
    obtain ⟨g1, g2⟩ := entry_key he hm
    refine ⟨_, S, ?_, ⟨hk, es.modify j fun e => { e with key := x, val := .bool true }, c, (heap_set hb).1, ?_, ?_, ?_⟩, upd_set w b _, .inl ⟨by rw [← f3]; exact g1, rfl⟩⟩
    · simp [Instr.mapUpdate, run_underlying ht, Result.andThen, h1, h2, f1, hkey, hst, MapKept.run_setObj_map _ hb]
    · rw [← he]
      apply List.ext_getElem?
      intro i
      simp only [List.getElem?_map, Array.getElem?_toList, Array.getElem?_modify]
      by_cases hij : j = i
      · subst hij
        simp [he2, f3, g2]
      · simp only [hij, if_false]
    · have e1 : (es.modify j fun e => { e with key := x, val := .bool true }).toList.map (·.born) = es.toList.map (·.born) := by
        apply List.ext_getElem?
        intro i
        simp only [List.getElem?_map, Array.getElem?_toList, Array.getElem?_modify]
        by_cases hij : j = i
        · subst hij; simp [he2]
        · simp only [hij, if_false]
      rw [e1]; exact hn
    · intro e' he'
      obtain ⟨i, hi⟩ := List.mem_iff_getElem?.1 he'
      simp only [Array.getElem?_toList, Array.getElem?_modify] at hi
      by_cases hij : j = i
      · subst hij
        simp only [if_true, he2, Option.map_some, Option.some.injEq] at hi
        subst hi; exact hl e hm
      · simp only [hij, if_false] at hi
        exact hl e' (List.mem_iff_getElem?.2 ⟨i, by simpa using hi⟩)
/-- 'm[k] = true' at its operation. -/
theorem wpList_putS {ops : Array Oper} {rest : List Oper} {o : Oper} {a : Act} {Q : Exit → Act → World → Prop}
    (hg : o.guard = none) (mo x vo : Operand) (hop : o.op = Op.mapUpdate t mo x vo) (K : KL P kt Kd) (ht : P.underlying t = some (.map kt et))
    (hm : a.eval mo = .map (some b)) (h : IsSet Kd w b S) {k : Value} (hk : Kd k) (hx : a.eval x = k) (hv : a.eval vo = .bool true)
    (hK : ∀ w' S', IsSet Kd w' b S' → Upd [b] w w' → ((k ∈ S ∧ S' = S) ∨ (k ∉ S ∧ S' = S ++ [k])) → wpList P ops Q rest (a.put o.dst undef) w') : wpList P ops Q (o :: rest) a w := by
  refine wpList_plain hg fun K' hK' => ?_
  obtain ⟨w', S', hrun, r1, r2, r3⟩ := run_put (P := P) K h ht hk
  unfold Oper.wp
  simp [execOp, hop, hm, hx, hv, hrun, Result.andThen]
  exact hK' _ _ (hK w' S' r1 r2 r3)
end
end Go.Proofs.Ytklacfdbpmkiiaa.MS
