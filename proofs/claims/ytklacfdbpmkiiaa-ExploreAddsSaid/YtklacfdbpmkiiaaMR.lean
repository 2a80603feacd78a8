/- Going over a map that holds a set of wide keys: each comes once, in whatever order. -/
import Derived.Test.YtklacfdbpmkiiaaMS
import Derived.Laws.IdiomRangeMap
import Derived.Maps.RangeWalk
namespace Go.Proofs.Ytklacfdbpmkiiaa.MR
open Go Go.RowKit Go.MapKept Go.Proofs.Ytklacfdbpmkiiaa.K Go.Proofs.Ytklacfdbpmkiiaa.MS

/-- Block r goes over the map in block b; T is what has come. -/
structure Rg (w : World) (b r : Nat) (S T : List Value) : Prop where
  has : ∃ (es : Array MapEntry) (clock : Nat) (seen : Array Nat) (L : List MapEntry), w.heap[b]? = some (.map es clock) ∧ es.toList.map (fun e => (e.key, e.val)) = S.map (fun k => (k, Value.bool true)) ∧ (es.toList.map (·.born)).Nodup ∧ (∀ e ∈ es.toList, e.born < clock) ∧
    w.heap[r]? = some (.mapIter (some b) clock seen clock) ∧ seen.toList = L.map (·.born) ∧ (L.map (·.born)).Nodup ∧ (∀ e ∈ L, e ∈ es.toList) ∧ T = L.map (·.key)
variable {P : Program} {w w' : World} {b r : Nat} {S T : List Value} {Kd : Value → Prop} {t kt et : TypeId}
theorem Rg.upd {U : List Nat} (h : Rg w b r S T) (u : Upd U w w') (hb : b ∉ U) (hr : r ∉ U) : Rg w' b r S T := by
  obtain ⟨es, c, seen, L, h1, h2, h3, h4, h5, h6⟩ := h.has
  exact ⟨es, c, seen, L, u.blk h1 hb, h2, h3, h4, u.blk h5 hr, h6⟩
theorem Rg.new (h : Rg w b r S T) (u : Upd [] w w') : Rg w' b r S T := h.upd u (by simp) (by simp)
theorem Rg.ne_cells (h : Rg w b r S T) {g : Nat} {cs : Array Value} {ty : TypeId} {f : Nat × Nat} (hg : w.heap[g]? = some (.cells cs ty f)) : b ≠ g ∧ r ≠ g := by
  obtain ⟨es, c, seen, L, h1, h2, h3, h4, h5, h6⟩ := h.has
  exact ⟨fun e => (by subst e; rw [h1] at hg; cases hg), fun e => (by subst e; rw [h5] at hg; cases hg)⟩
theorem Rg.lt (h : Rg w b r S T) : r < w.heap.size := by
  obtain ⟨es, c, seen, L, h1, h2, h3, h4, h5, h6⟩ := h.has
  exact K.blk_lt h5
theorem nodup_inj {α β : Type} {f : α → β} : ∀ {l : List α}, (l.map f).Nodup → ∀ {x y : α}, x ∈ l → y ∈ l → f x = f y → x = y
  | a :: l, hn, x, y, hx, hy, e => by
    rw [List.map_cons, List.nodup_cons] at hn
    rcases List.mem_cons.1 hx with px | px
    · rcases List.mem_cons.1 hy with py | py
      · rw [px, py]
      · exact absurd (List.mem_map.2 ⟨y, py, by rw [← e, px]⟩) hn.1
    · rcases List.mem_cons.1 hy with py | py
      · exact absurd (List.mem_map.2 ⟨x, px, by rw [e, py]⟩) hn.1
      · exact nodup_inj hn.2 px py e
theorem nodup_of_map {α β : Type} {f : α → β} {l : List α} (h : (l.map f).Nodup) : l.Nodup := by
  rw [List.Nodup, List.pairwise_map] at h
  exact h.imp (fun {a b} hab e => hab (by rw [e]))
theorem len_le_of {α : Type} : ∀ {l m : List α}, l.Nodup → (∀ x ∈ l, x ∈ m) → l.length ≤ m.length
  | [], m, _, _ => Nat.zero_le _
  | x :: l, m, hn, h => by
    obtain ⟨p, q, rfl⟩ := List.append_of_mem (h x (by simp))
    obtain ⟨h1, h2⟩ := List.nodup_cons.1 hn
    have := len_le_of (m := p ++ q) h2 (fun y hy => by
      have hy' := h y (by simp [hy])
      rcases List.mem_append.1 hy' with z | z
      · exact List.mem_append.2 (.inl z)
      · rcases List.mem_cons.1 z with rfl | z
        · exact absurd hy h1
        · exact List.mem_append.2 (.inr z))
    simp only [List.length_append, List.length_cons] at this ⊢
    omega
theorem perm_of {α : Type} : ∀ {l m : List α}, l.Nodup → m.Nodup → (∀ x, x ∈ l ↔ x ∈ m) → l.Perm m
  | [], m, _, _, h => by
    cases m with
    | nil => exact List.Perm.refl _
    | cons a m => exact absurd ((h a).2 (by simp)) (by simp)
  | x :: l, m, hl, hm, h => by
    obtain ⟨p, q, rfl⟩ := List.append_of_mem ((h x).1 (by simp))
    obtain ⟨h1, h2⟩ := List.nodup_cons.1 hl
    have hm' : (x :: (p ++ q)).Nodup := (List.perm_middle.nodup_iff).1 hm
    obtain ⟨h3, h4⟩ := List.nodup_cons.1 hm'
    have := perm_of h2 h4 (fun y => by
      have hy := h y
      constructor
      · intro z
        have := hy.1 (by simp [z])
        rcases List.mem_append.1 this with u | u
        · exact List.mem_append.2 (.inl u)
        · rcases List.mem_cons.1 u with rfl | u
          · exact absurd z h1
          · exact List.mem_append.2 (.inr u)
      · intro z
        have hz : y ∈ p ++ x :: q := by
          rcases List.mem_append.1 z with u | u
          · exact List.mem_append.2 (.inl u)
          · exact List.mem_append.2 (.inr (by simp [u]))
        rcases List.mem_cons.1 (hy.2 hz) with rfl | u
        · exact absurd z h3
        · exact u)
    exact (this.cons x).trans List.perm_middle.symm
theorem keys_eq {es : List MapEntry} {S : List Value} (h : es.map (fun e => (e.key, e.val)) = S.map (fun k => (k, Value.bool true))) : es.map (·.key) = S ∧ ∀ e ∈ es, e.val = .bool true := by
  constructor
  · have := congrArg (fun l : List (Value × Value) => l.map (·.1)) h
    simpa [List.map_map, Function.comp_def] using this
  · exact fun e he => (entry_key h he).2
theorem run_range (h : IsSet Kd w b S) (ht : P.underlying t = some (.map kt et)) :
    ∃ w', (Instr.range t (.map (some b))).run P w = .ok (.pointer (some ⟨w.heap.size, 0, none⟩)) w' ∧ Rg w' b w.heap.size S [] ∧ Upd [] w w' := by
  obtain ⟨hk, es, c, hb, he, hn, hl⟩ := h
  exact ⟨_, run_range_map w t kt et b es c ht hb, ⟨es, c, #[], [], K.blk_alloc hb _, he, hn, hl, blk_new w _, rfl, by simp, by simp, rfl⟩, (Upd.refl [] w).alloc _⟩
theorem run_next (h : Rg w b r S T) (ty : TypeId) : (T.Perm S ∧ (Instr.next (.pointer (some ⟨r, 0, none⟩)) false ty).run P w = .ok (.tuple #[.bool false]) w) ∨
    ∃ k w', (Instr.next (.pointer (some ⟨r, 0, none⟩)) false ty).run P w = .ok (.tuple #[.bool true, k, .bool true]) w' ∧ Rg w' b r S (T ++ [k]) ∧ k ∈ S ∧ T.length < S.length ∧ Upd [r] w w' ∧ (Instr.entry (.pointer (some ⟨r, 0, none⟩))).run P w' = .ok (.tuple #[k, .bool true]) w' := by
  obtain ⟨es, clock, seen, L, hb, he, hn, hl, hr, hs, hLn, hLs, hT⟩ := h.has
  obtain ⟨hkeys, hvals⟩ := keys_eq he
  have htest := next_test_false seen es clock clock hl (Nat.le_refl _)
  have gb : (getObj b).run P w = .ok (.map es clock) w := MapKept.run_getObj_map hb
  have gr : (getObj r).run P w = .ok (.mapIter (some b) clock seen clock) w := by simp [getObj, Sem.run, hr]
  have hseen : ∀ e : MapEntry, e ∈ es.toList → (seen.contains e.born = true ↔ e ∈ L) := fun e hem => by
    rw [← Array.contains_toList, hs, List.contains_iff_mem]
    constructor
    · intro hm
      obtain ⟨x, hx, hxe⟩ := List.mem_map.1 hm
      rw [nodup_inj hn hem (hLs x hx) hxe.symm]; exact hx
    · intro hm; exact List.mem_map.2 ⟨e, hm, rfl⟩
  have e1 : (es.filter fun e => !seen.contains e.born).filter (fun x => decide (x.born < clock)) = es.filter fun e => !seen.contains e.born := Array.filter_eq_self.2 (fun x hx => by
    simp only [Array.mem_filter] at hx
    simpa using hl x (by simpa using hx.1))
  have e2 : (es.filter fun e => !seen.contains e.born).filter (fun x => decide (x.born ≥ clock)) = #[] := by
    rw [Array.filter_eq_empty_iff]
    intro x hx
    simp only [Array.mem_filter] at hx
    have := hl x (by simpa using hx.1)
    simp; omega
  have hLperm : ∀ e, e ∈ es.filter (fun e => !seen.contains e.born) ↔ e ∈ es.toList ∧ e ∉ L := fun e => by
    simp only [Array.mem_filter, Bool.not_eq_true']
    constructor
    · rintro ⟨q1, q2⟩
      have q1' : e ∈ es.toList := by simpa using q1
      exact ⟨q1', fun hm => by rw [(hseen e q1').2 hm] at q2; cases q2⟩
    · rintro ⟨q1, q2⟩
      refine ⟨by simpa using q1, ?_⟩
      cases c : seen.contains e.born with
      | false => rfl
      | true => exact absurd ((hseen e q1).1 c) q2
  have hrun : (Instr.next (.pointer (some ⟨r, 0, none⟩)) false ty).run P w = _ := rfl
  simp only [Instr.next, Sem.run_bind, gr, gb, Result.andThen, htest, Bool.false_eq_true, if_false] at hrun ⊢
  generalize hF : es.filter (fun e => !seen.contains e.born) = F at e1 e2 hLperm ⊢
  simp only [e1, e2, Array.append_empty]
  by_cases h0 : F.size = 0
  · left
    have hF0 : F = #[] := Array.eq_empty_of_size_eq_zero h0
    subst hF0
    refine ⟨?_, by simp [choose, Sem.run, Question.forced]⟩
    rw [hT, ← hkeys]
    refine List.Perm.map _ (perm_of (nodup_of_map hLn) (nodup_of_map hn) (fun x => ⟨fun hx => hLs x hx, fun hx => ?_⟩))
    by_cases hx' : x ∈ L
    · exact hx'
    · exact absurd ((hLperm x).2 ⟨hx, hx'⟩) (by simp)
  · right
    have hne : F.isEmpty = false := by simp [Array.isEmpty, h0]
    simp only [hne, Bool.false_eq_true, if_false, Array.empty_append, Array.size_map]
    have hch : ∃ (j : Nat) (w1 : World), j < F.size ∧ (w1 = w ∨ w1 = w.drew) ∧ (choose (Question.mapNext F.size)).run P w = .ok j w1 := by
      by_cases hf : F.size ≤ 1
      · exact ⟨0, w, by omega, .inl rfl, by simp [choose, Sem.run, Question.forced, hf]⟩
      · exact ⟨_, w.drew, Nat.mod_lt _ (by omega), .inr rfl, by
          simp only [choose, Sem.run, Question.forced, decide_eq_true_eq, hf, if_false, Question.cut]
          rfl⟩
    obtain ⟨j, w1, hj, hw1, hrun'⟩ := hch
    obtain ⟨m1, m2⟩ := (hLperm F[j]).1 (Array.getElem_mem hj)
    have hh : w1.heap = w.heap := by rcases hw1 with rfl | rfl <;> rfl
    have u1 : Upd [] w w1 := by
      rcases hw1 with rfl | rfl
      · exact Upd.refl _ _
      · exact (Upd.refl _ _).drew
    have hset : ∀ o' : Obj, (setObj r o').run P w1 = .ok () { w1 with heap := w1.heap.setIfInBounds r o' } := fun o' => by
      simp only [setObj, Sem.run]
      rw [hh, hr]
    have hval := hvals _ m1
    have hbr : b ≠ r := fun e => by subst e; rw [hb] at hr; cases hr
    have hbW : ({ w1 with heap := w1.heap.setIfInBounds r (.mapIter (some b) clock (seen.push F[j].born) clock) } : World).heap[b]? = some (.map es clock) := by
      show (w1.heap.setIfInBounds r _)[b]? = _
      rw [Array.getElem?_setIfInBounds_ne (Ne.symm hbr), hh, hb]
    have hrW : ({ w1 with heap := w1.heap.setIfInBounds r (.mapIter (some b) clock (seen.push F[j].born) clock) } : World).heap[r]? = some (.mapIter (some b) clock (seen.push F[j].born) clock) := by
      show (w1.heap.setIfInBounds r _)[r]? = _
      rw [Array.getElem?_setIfInBounds_self_of_lt (by rw [hh]; exact K.blk_lt hr)]
    refine ⟨F[j].key, { w1 with heap := w1.heap.setIfInBounds r (.mapIter (some b) clock (seen.push F[j].born) clock) }, ?_, ⟨es, clock, seen.push F[j].born, L ++ [F[j]], hbW, he, hn, hl, hrW, ?_, ?_, ?_, ?_⟩, ?_, ?_, (u1.mono (T := [r]) (by simp)).trans (upd_set w1 r _) (fun t ht => .inl ht), ?_⟩
    · simp only [hrun', Array.getElem?_map, Array.getElem?_eq_getElem hj, Option.map_some, Sem.run_bind, hset, Result.andThen, hval]
      rfl
    · simp [hs]
    · rw [List.map_append, List.nodup_append]
      refine ⟨hLn, by simp, fun a ha q hq e => ?_⟩
      obtain ⟨x, hx, rfl⟩ := List.mem_map.1 ha
      have : q = F[j].born := by simpa using hq
      subst this
      exact m2 (by rw [← nodup_inj hn (hLs x hx) m1 e]; exact hx)
    · intro e hm
      rcases List.mem_append.1 hm with q | q
      · exact hLs e q
      · have : e = F[j] := by simpa using q
        subst this; exact m1
    · rw [hT]; simp
    · rw [← hkeys]; exact List.mem_map.2 ⟨_, m1, rfl⟩
    · rw [hT, ← hkeys, List.length_map, List.length_map]
      have := len_le_of (l := F[j] :: L) (m := es.toList) (List.nodup_cons.2 ⟨m2, nodup_of_map hLn⟩) (fun x hx => by
        rcases List.mem_cons.1 hx with rfl | hx
        · exact m1
        · exact hLs x hx)
      simp only [List.length_cons] at this
      omega
    · have hf : es.find? (·.born == F[j].born) = some F[j] := by rw [← Array.find?_toList]; exact find_born F[j] es.toList hn m1
      obtain ⟨W2, hW2⟩ : ∃ W2, W2 = ({ w1 with heap := w1.heap.setIfInBounds r (.mapIter (some b) clock (seen.push F[j].born) clock) } : World) := ⟨_, rfl⟩
      rw [← hW2] at hbW hrW ⊢
      have gb' : (getObj b).run P W2 = .ok (.map es clock) W2 := MapKept.run_getObj_map hbW
      have gr' : (getObj r).run P W2 = .ok (.mapIter (some b) clock (seen.push F[j].born) clock) W2 := by simp only [getObj, Sem.run, hrW]
      simp only [Instr.entry, Sem.run_bind, gr', gb', Result.andThen, Array.back?_push, bne_self_eq_false, Bool.false_eq_true, if_false, hf, hval]
      rfl
variable {ops : Array Oper} {rest : List Oper} {o : Oper} {a : Act} {Q : Exit → Act → World → Prop}
/-- 'range m' at its operation. -/
theorem wpList_range (hg : o.guard = none) (x : Operand) (hop : o.op = Op.range t x) (ht : P.underlying t = some (.map kt et)) (hx : a.eval x = .map (some b)) (h : IsSet Kd w b S)
    (hK : ∀ w', Rg w' b w.heap.size S [] → Upd [] w w' → wpList P ops Q rest (a.put o.dst (.pointer (some ⟨w.heap.size, 0, none⟩))) w') : wpList P ops Q (o :: rest) a w := by
  refine wpList_plain hg fun K' hK' => ?_
  obtain ⟨w', hrun, r1, r2⟩ := run_range (P := P) h ht
  unfold Oper.wp
  simp [execOp, hop, hx, hrun, Result.andThen]
  exact hK' _ _ (hK w' r1 r2)
/-- The next one, at its operation. -/
theorem wpList_next (hg : o.guard = none) (x : Operand) (hop : o.op = Op.next x false) (hx : a.eval x = .pointer (some ⟨r, 0, none⟩)) (h : Rg w b r S T)
    (hE : T.Perm S → wpList P ops Q rest (a.put o.dst (.tuple #[.bool false])) w)
    (hK : ∀ k w', Rg w' b r S (T ++ [k]) → k ∈ S → T.length < S.length → Upd [r] w w' → (Instr.entry (.pointer (some ⟨r, 0, none⟩))).run P w' = .ok (.tuple #[k, .bool true]) w' → wpList P ops Q rest (a.put o.dst (.tuple #[.bool true, k, .bool true])) w') : wpList P ops Q (o :: rest) a w := by
  refine wpList_plain hg fun K' hK' => ?_
  unfold Oper.wp
  rcases run_next (P := P) h o.type with ⟨h1, h2⟩ | ⟨k, w', h1, h2, h3, h4, h5, h6⟩
  · simp [execOp, hop, hx, h2, Result.andThen]
    exact hK' _ _ (hE h1)
  · simp [execOp, hop, hx, h1, Result.andThen]
    exact hK' _ _ (hK k w' h2 h3 h4 h5 h6)
end Go.Proofs.Ytklacfdbpmkiiaa.MR
