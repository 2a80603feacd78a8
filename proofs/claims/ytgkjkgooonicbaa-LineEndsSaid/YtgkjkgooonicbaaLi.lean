/- Things in memory that are apart from one another; the ends of a line among them. -/
import Derived.Test.YtgkjkgooonicbaaLt
import Derived.Test.YtgkjkgooonicbaaLd
import Derived.Laws.OwnMore
namespace Go.Proofs.Ytgkjkgooonicbaa.Lm
open Go Go.RowKit Go.Proofs.Ytgkjkgooonicbaa Go.Proofs.Ytgkjkgooonicbaa.K Go.Proofs.Ytgkjkgooonicbaa.M Go.Proofs.Ytgkjkgooonicbaa.O

/-- A thing in memory: the blocks that it may change, and what is so of it. -/
structure Itm where
  ft : List Nat
  P : World → Prop
  keep : ∀ {w w' : World} {S : List Nat}, P w → Upd S w w' → (∀ s ∈ S, s ∉ ft) → NoB w S → P w'
  lt : ∀ {w : World}, P w → ∀ s ∈ ft, s < w.heap.size
  nob : ∀ {w : World}, P w → NoB w ft
def endI (F : List Nat) (g : Nat) (e : E) : Itm where
  ft := F
  P := fun w => IsE w F g e
  keep := fun h u d n => h.upd u d n
  lt := fun h _ hs => h.lt hs
  nob := fun h => h.noB
def rowI (v : Value) (A : List (List Nat)) : Itm where
  ft := v.ownBlock.toList
  P := fun w => ∃ vs, w.ownsRow 0 29 1 v A.length vs ∧ Bodies w vs A
  keep := fun ⟨vs, h1, h2⟩ u d n => ⟨vs, own_upd h1 u (fun k hk hs => d k hs (by simpa using hk)), h2.upd u n⟩
  lt := fun ⟨vs, h1, _⟩ s hs => own_lt h1 s (by simpa using hs)
  nob := fun ⟨vs, h1, _⟩ s hs hx => by
    obtain ⟨cur, hb⟩ := own_block h1 s (by simpa using hs)
    obtain ⟨cur', f', hx⟩ := hx
    rw [hb] at hx
    simp at hx
def pksI (v : Value) (ps : List Pk) : Itm where
  ft := v.ownBlock.toList
  P := fun w => IsPks w 0 v ps
  keep := fun h u d n => h.upd u (fun k hk hs => d k hs (by simpa using hk)) n
  lt := fun ⟨us, h1, _⟩ s hs => own_lt h1 s (by simpa using hs)
  nob := fun ⟨us, h1, _⟩ s hs hx => by
    obtain ⟨cur, hb⟩ := own_block h1 s (by simpa using hs)
    obtain ⟨cur', f', hx⟩ := hx
    rw [hb] at hx
    simp at hx
def blkI (Q : Nat) (cs : Array Value) (t : TypeId) (ht : t ≠ 5) : Itm where
  ft := [Q]
  P := fun w => w.heap[Q]? = some (.cells cs t (0, 0))
  keep := fun h u d _ => u.blk h (fun hs => d Q hs (by simp))
  lt := fun h s hs => by simp at hs; subst hs; exact blk_lt h
  nob := fun h s hs hx => by
    simp at hs
    subst hs
    obtain ⟨cur', f', hx⟩ := hx
    rw [h] at hx
    simp at hx
    exact ht hx.2.1
/-- All these things are there, apart from one another, in blocks from B on. -/
structure All (B : Nat) (w : World) (l : List Itm) : Prop where
  hold : ∀ i : Nat, ∀ a : Itm, l[i]? = some a → a.P w
  base : ∀ i : Nat, ∀ a : Itm, l[i]? = some a → ∀ s ∈ a.ft, B ≤ s
  apart : ∀ i j : Nat, i ≠ j → ∀ a b : Itm, l[i]? = some a → l[j]? = some b → ∀ s ∈ a.ft, s ∉ b.ft
  size : B ≤ w.heap.size
section
variable {B : Nat} {w w' : World} {l : List Itm}
theorem All.new (h : All B w l) (u : Upd [] w w') : All B w' l :=
  ⟨fun i a ha => a.keep (h.hold i a ha) u (fun s hs => by cases hs) (NoB.nil _), h.base, h.apart, Nat.le_trans h.size u.size⟩
theorem All.set (h : All B w l) {i : Nat} {a a' : Itm} (hi : l[i]? = some a) (u : Upd a.ft w w') (ha : a'.P w') (fr : Fresh w a.ft a'.ft) : All B w' (l.set i a') := by
  have hlt : i < l.length := (List.getElem?_eq_some_iff.1 hi).1
  have hn := a.nob (h.hold i a hi)
  have key : ∀ (j : Nat) (c : Itm), (l.set i a')[j]? = some c → (j = i ∧ c = a') ∨ (j ≠ i ∧ l[j]? = some c) := fun j c hc => by
    by_cases e : j = i
    · subst e; rw [List.getElem?_set_self hlt] at hc; cases hc; exact .inl ⟨rfl, rfl⟩
    · rw [List.getElem?_set_ne (fun q => e q.symm)] at hc; exact .inr ⟨e, hc⟩
  refine ⟨fun j c hc => ?_, fun j c hc s hs => ?_, fun j k hjk c d hc hd s hs hs2 => ?_, Nat.le_trans h.size u.size⟩
  · rcases key j c hc with ⟨rfl, rfl⟩ | ⟨e, hc2⟩
    · exact ha
    · exact c.keep (h.hold j c hc2) u (h.apart i j (fun q => e q.symm) a c hi hc2) hn
  · rcases key j c hc with ⟨rfl, rfl⟩ | ⟨e, hc2⟩
    · rcases fr s hs with q | q
      · exact h.base j a hi s q
      · exact Nat.le_trans h.size q
    · exact h.base j c hc2 s hs
  · rcases key j c hc with ⟨rfl, rfl⟩ | ⟨e, hc2⟩
    · rcases key k d hd with ⟨rfl, rfl⟩ | ⟨e2, hd2⟩
      · exact hjk rfl
      · rcases fr s hs with q | q
        · exact h.apart j k hjk a d hi hd2 s q hs2
        · have := d.lt (h.hold k d hd2) s hs2; omega
    · rcases key k d hd with ⟨rfl, rfl⟩ | ⟨e2, hd2⟩
      · rcases fr s hs2 with q | q
        · exact h.apart j k hjk c a hc2 hi s hs q
        · have := c.lt (h.hold j c hc2) s hs; omega
      · exact h.apart j k hjk c d hc2 hd2 s hs hs2
theorem All.after {w0 : World} (u0 : Upd [] w0 w) (h : All B w l) {i : Nat} {a : Itm} (hi : l[i]? = some a) (u : Upd a.ft w w') (hB : w0.heap.size ≤ B) : Upd [] w0 w' :=
  u0.trans u (fun t ht => .inr (Nat.le_trans hB (h.base i a hi t ht)))
theorem All.snoc (h : All B w l) {a : Itm} (ha : a.P w) (hb : ∀ s ∈ a.ft, B ≤ s) (hap : ∀ i : Nat, ∀ b : Itm, l[i]? = some b → ∀ s ∈ a.ft, s ∉ b.ft) : All B w (l ++ [a]) := by
  have key : ∀ (j : Nat) (c : Itm), (l ++ [a])[j]? = some c → (j = l.length ∧ c = a) ∨ (j < l.length ∧ l[j]? = some c) := fun j c hc => by
    by_cases e : j < l.length
    · rw [List.getElem?_append_left e] at hc; exact .inr ⟨e, hc⟩
    · rw [List.getElem?_append_right (by omega)] at hc
      have : j - l.length = 0 := by
        by_cases q : j - l.length = 0
        · exact q
        · rw [List.getElem?_eq_none (by simp; omega)] at hc; cases hc
      rw [this] at hc
      simp at hc
      exact .inl ⟨by omega, hc.symm⟩
  refine ⟨fun j c hc => ?_, fun j c hc => ?_, fun j k hjk c d hc hd s hs hs2 => ?_, h.size⟩
  · rcases key j c hc with ⟨rfl, rfl⟩ | ⟨_, hc2⟩
    · exact ha
    · exact h.hold j c hc2
  · rcases key j c hc with ⟨rfl, rfl⟩ | ⟨_, hc2⟩
    · exact hb
    · exact h.base j c hc2
  · rcases key j c hc with ⟨rfl, rfl⟩ | ⟨_, hc2⟩
    · rcases key k d hd with ⟨rfl, rfl⟩ | ⟨_, hd2⟩
      · exact hjk rfl
      · exact hap k d hd2 s hs hs2
    · rcases key k d hd with ⟨rfl, rfl⟩ | ⟨_, hd2⟩
      · exact hap j c hc2 s hs2 hs
      · exact h.apart j k hjk c d hc2 hd2 s hs hs2
/-- A thing that has just been made. -/
theorem All.fresh (h : All B w l) (u : Upd [] w w') {a : Itm} (ha : a.P w') (hf : ∀ s ∈ a.ft, w.heap.size ≤ s) : All B w' (l ++ [a]) :=
  (h.new u).snoc ha (fun s hs => Nat.le_trans h.size (hf s hs)) (fun i b hb s hs hs2 => by
    have h1 := b.lt (h.hold i b hb) s hs2
    have h2 := hf s hs
    omega)

variable {g i : Nat} {F : List Nat} {e : E}
theorem a_put (h : All B w l) (hi : l[i]? = some (endI F g e)) {v : Value} {b : List Nat} (hb : Body w v b) (hm : b.length ≤ 1048576) (hf : e.kept.length < e.window) (hw : e.window ≤ 16) :
    Calls Try.prog 16 #[.pointer (some ⟨g, 0, none⟩), v] w fun r w' => ∃ F', r = .returned (.int .i64 0) ∧ All B w' (l.set i (endI F' g (eput e b))) ∧ Upd F w w' ∧ NoB w F := by
  have he : IsE w F g e := h.hold i _ hi
  refine (put_yes he v b hb hm hf hw).mono ?_
  rintro r w' ⟨F', rfl, k1, k2, k3⟩
  exact ⟨F', rfl, h.set hi k3 k1 k2, k3, he.noB⟩
theorem a_full (h : All B w l) (hi : l[i]? = some (endI F g e)) (a : Option Addr) (m k : Nat) (hm : m ≤ 1048576) (hf : e.kept.length = e.window) :
    Calls Try.prog 16 #[.pointer (some ⟨g, 0, none⟩), .slice a m k] w fun r w' => r = .returned (.int .i64 9) ∧ All B w' l ∧ Upd [] w w' := by
  refine (put_no (h.hold i _ hi) a m k hm hf).mono ?_
  rintro r w' ⟨rfl, _, u⟩
  exact ⟨rfl, h.new u, u⟩
theorem a_out (h : All B w l) (hi : l[i]? = some (endI F g e)) (ok : e.Ok) :
    Calls Try.prog 17 #[.pointer (some ⟨g, 0, none⟩)] w fun r w' => ∃ v, r = .returned v ∧ IsPks w' w.heap.size v e.out ∧ All B w' (l.set i (endI F g e.outE)) ∧ Upd F w w' := by
  refine (out_any (h.hold i _ hi) ok).mono ?_
  rintro r w' ⟨v, rfl, k1, k2, k3⟩
  exact ⟨v, rfl, k1, h.set hi k3 k2 (Fresh.refl _ _), k3⟩
theorem a_come (h : All B w l) (hi : l[i]? = some (endI F g e)) (ok : e.Ok) (p : Pk) (v : Value) (hv : Body w v p.body) (hp1 : p.window ≤ 16) (hp2 : p.body.length ≤ 1048576) (hp3 : p.ack ≤ 1000000) (hp4 : p.seq ≤ 1000000) (hto : e.told ≤ 100) :
    Calls Try.prog 18 #[.pointer (some ⟨g, 0, none⟩), .agg #[.int .u32 (p.seq : Int), .int .u32 (p.ack : Int), .bool p.has, .int .i64 (p.window : Int), v]] w fun r w' => ∃ F', r = .returned (.int .i64 0) ∧ All B w' (l.set i (endI F' g (e.come p))) ∧ Upd F w w' := by
  refine (come_any (h.hold i _ hi) ok p v hv hp1 hp2 hp3 hp4 hto).mono ?_
  rintro r w' ⟨F', rfl, k1, k2, k3⟩
  exact ⟨F', rfl, h.set hi k3 k1 k2, k3⟩
theorem a_tick (h : All B w l) (hi : l[i]? = some (endI F g e)) :
    Calls Try.prog 23 #[.pointer (some ⟨g, 0, none⟩)] w fun r w' => r = .returned (.tuple #[]) ∧ All B w' (l.set i (endI F g (etick e))) ∧ Upd F w w' := by
  refine (tick_any (h.hold i _ hi)).mono ?_
  rintro r w' ⟨rfl, k1, k2⟩
  exact ⟨rfl, h.set hi k2 k1 (Fresh.refl _ _), k2⟩
theorem a_got (h : All B w l) (hi : l[i]? = some (endI F g e)) :
    Calls Try.prog 25 #[.pointer (some ⟨g, 0, none⟩)] w fun r w' => ∃ F' v rs, r = .returned v ∧ w'.ownsRow 0 29 1 v e.read.length rs ∧ Bodies w' rs e.read ∧ All B w' (l.set i (endI F' g (egot e))) ∧ Upd F w w' := by
  refine (got_any (h.hold i _ hi)).mono ?_
  rintro r w' ⟨F', v, rs, rfl, k1, k2, k3, k4, k5⟩
  exact ⟨F', v, rs, rfl, k1, k2, h.set hi k5 k3 k4, k5⟩
end

/-- 'append(s, u...)' of one row of the call's own onto another one, as a step law of a region that draws. -/
theorem step_app_row {W : World} {ops : Array Oper} {o : Oper} {a : Act} {KK : Act → World → Prop} {Q : Exit → Act → World → Prop} {E : Prop} (hgd : o.guard = none) (s x : Operand) (t : TypeId)
    (ho : o.op = .call { callee := .builtin .append, args := #[s, x], argTypes := #[t, t] })
    (e : TypeId) (i : TypeInfo) (z : Value) (size bytes : Nat) (ht : Try.prog.underlying t = some (.slice e)) (hi : Try.prog.info? e = some i) (hz : i.zero = some z)
    (hsize : i.size = size) (hby : i.bytes = bytes) (hzs : z.cells.size = size) (hsz : 0 < size)
    (v : Value) (n : Nat) (xs : List Value) (hs : a.eval s = v) (hown : W.ownsRow 0 e size v n xs)
    (u : Value) (m B : Nat) (ys : List Value) (hx : a.eval x = u) (hu : W.ownsRow B e size u m ys) (h1 : ∀ c ∈ ys, c.oneCell' = true)
    (h63 : n + m ≤ maxLen) (hbytes : (n + m) * bytes ≤ 140737488355328)
    (hK : ∀ v' w', w'.ownsRow 0 e size v' (n + m) (xs ++ ys) → Upd v.ownBlock.toList W w' → (∀ k, v'.ownBlock = some k → v.ownBlock = some k ∨ W.heap.size ≤ k) → KK (a.put o.dst v') w') :
    if Region.wanted o (yielded ops a.tmps) = true then Oper.wp Try.prog o a W KK Q else E := by
  rcases hu.2 with ⟨rfl, hy⟩ | ⟨g, cap, cur, rfl, _, hg, hnc, hcm, hcs, htake⟩
  · have hw : Region.wanted o (yielded ops a.tmps) = true := by simp [Region.wanted, hgd]
    rw [if_pos hw]
    have hm : m = 0 := hy
    have hys : ys = [] := List.eq_nil_of_length_eq_zero (by rw [hu.1, hm]; omega)
    subst hm
    have hr := fun ty => Go.run_append_owned_none (P := Try.prog) (w := W) 0 t ty e i size ht hi v n xs hown
    unfold Oper.wp execOp
    simp only [ho, resolve, invoke, builtin, Sem.run_bind, Sem.run_pure, Result.andThen_ok, List.map_toArray, List.map_cons, List.map_nil, hs, hx, hr]
    exact hK _ _ (by rw [hys, List.append_nil]; exact hown) (Upd.refl _ _) (fun k hk => .inl hk)
  · refine J.step_app hgd s x t ho 0 e i z size bytes ht hi hz hsize hby hzs hsz v n xs hs hown ⟨g, 0, none⟩ m cap ys hx hu.1 (fun j c hj => ?_) h1 h63 hbytes (Nat.zero_le _) hK
    have hj2 : j < m * size := by have := (List.getElem?_eq_some_iff.1 hj).1; rw [hu.1] at this; exact this
    have e : (⟨g, 0, none⟩ : Addr).add j = ⟨g, j, none⟩ := by unfold Addr.add; split <;> simp_all
    rw [e, blk_cell hg]
    rw [← htake, List.getElem?_take, if_pos hj2] at hj
    simpa using hj
end Go.Proofs.Ytgkjkgooonicbaa.Lm
