/- explore.goOn: what it keeps in memory; its parts. -/
import Derived.Test.YtklacfdbpmkiiaaYb
import Derived.Test.YtklacfdbpmkiiaaShelf
import Derived.Test.YtklacfdbpmkiiaaJ
import Derived.Deep.RegionLawGrows
namespace Go.Proofs.Ytklacfdbpmkiiaa.Y
open Go Go.RowKit Go.Proofs.Ytklacfdbpmkiiaa Go.Proofs.Ytklacfdbpmkiiaa.K Go.Proofs.Ytklacfdbpmkiiaa.M Go.Proofs.Ytklacfdbpmkiiaa.O Go.Proofs.Ytklacfdbpmkiiaa.R Go.Proofs.Ytklacfdbpmkiiaa.A Go.Proofs.Ytklacfdbpmkiiaa.MS
open Go.Proofs.Ytklacfdbpmkiiaa.X (D St Ps noD act wr dep may newC newH stp)

/-- Numbers in memory. -/
def IntsAt (w : World) (a : Option Addr) (l : List Nat) : Prop := (a = none ∧ l = []) ∨ ∃ g cs, a = some ⟨g, 0, none⟩ ∧ w.heap[g]? = some (.cells cs 3 (0, 0)) ∧ ∀ i, i < l.length → cs[i]? = some (nv (l.getD i 0))
theorem IntsAt.keep {w w' : World} {a : Option Addr} {l : List Nat} (h : IntsAt w a l) {T : List Nat} (u : Upd T w w') (ho : ∀ k ∈ T, ∀ cs f, w.heap[k]? ≠ some (.cells cs 3 f)) : IntsAt w' a l := by
  rcases h with h | ⟨g, cs, e, hb, hc⟩
  · exact .inl h
  · exact .inr ⟨g, cs, e, u.blk hb (fun hm => ho g hm cs _ hb), hc⟩
theorem IntsAt.new {w w' : World} {a : Option Addr} {l : List Nat} (h : IntsAt w a l) (u : Upd [] w w') : IntsAt w' a l := h.keep u (fun _ h => by cases h)
/-- The value of an order. -/
def OrdAt (w : World) (u : Value) (o : List Nat) : Prop := ∃ a cap, u = .slice a o.length cap ∧ o.length ≤ cap ∧ cap ≤ 9223372036854775807 ∧ IntsAt w a o
/-- A state's numbers. -/
def W4 (s : St) : Prop := s.c.length = 4 ∧ s.h.length = 4 ∧ s.a.length = 4
/-- Keys of the map of ends. -/
def Kst (v : Value) : Prop := ∃ s : St, v = stv s
/-- What is found, in memory. -/
structure FAt (w : World) (F M : Nat) (v : Value) (us : List Value) (os : List (List Nat)) (sts : List St) : Prop where
  blk : w.heap[F]? = some (.cells #[.map (some M), v] 62 (0, 0))
  own : w.ownsRow 0 22 1 v os.length us
  row : ∀ j, j < os.length → OrdAt w (us.getD j undef) (os.getD j [])
  set : IsSet Kst w M (sts.map stv)
  w4 : ∀ s ∈ sts, W4 s
/-- The blocks that goOn writes to. -/
def tch (F M : Nat) (v : Value) : List Nat := F :: M :: v.ownBlock.toList
theorem FAt.tags {w : World} {F M : Nat} {v : Value} {us : List Value} {os : List (List Nat)} {S : List St} (h : FAt w F M v us os S) : ∀ k ∈ tch F M v, ∀ cs t f, w.heap[k]? = some (.cells cs t f) → t = 62 ∨ t = 22 := fun k hk cs t f hb => by
  rcases List.mem_cons.1 hk with rfl | hk
  · rw [h.blk] at hb; cases hb; exact .inl rfl
  · rcases List.mem_cons.1 hk with rfl | hk
    · exact absurd rfl (h.set.ne_cells hb)
    · obtain ⟨cur, hc⟩ := own_block h.own k (by simpa using hk)
      rw [hc] at hb; cases hb; exact .inr rfl
theorem FAt.new {w w' : World} {F M : Nat} {v : Value} {us : List Value} {os : List (List Nat)} {S : List St} (h : FAt w F M v us os S) (u : Upd [] w w') : FAt w' F M v us os S :=
  ⟨u.blk h.blk (by simp), own_new h.own u, fun j hj => by obtain ⟨a, cap, e, h1, h2, h3⟩ := h.row j hj; exact ⟨a, cap, e, h1, h2, h3.new u⟩, h.set.new u, h.w4⟩
theorem FAt.off {w : World} {F M : Nat} {v : Value} {us : List Value} {os : List (List Nat)} {S : List St} (h : FAt w F M v us os S) : Off w (tch F M v) := fun k hk cs f =>
  ⟨fun hb => (by rcases h.tags k hk cs _ f hb with e | e <;> cases e), fun hb => (by rcases h.tags k hk cs _ f hb with e | e <;> cases e)⟩
theorem FAt.off3 {w : World} {F M : Nat} {v : Value} {us : List Value} {os : List (List Nat)} {S : List St} (h : FAt w F M v us os S) : ∀ k ∈ tch F M v, ∀ cs f, w.heap[k]? ≠ some (.cells cs 3 f) := fun k hk cs f hb => by rcases h.tags k hk cs _ f hb with e | e <;> cases e
theorem FAt.offA {w : World} {F M : Nat} {v : Value} {us : List Value} {os : List (List Nat)} {S : List St} (h : FAt w F M v us os S) {C : Nat} {t : TypeId} {n : Nat} {f : Nat → Value} (ha : Arr w C t n f) (ht : t ≠ 62 ∧ t ≠ 22) : C ∉ tch F M v := fun hk => by
  obtain ⟨cs, hb, -⟩ := ha
  rcases h.tags C hk cs _ _ hb with e | e
  · exact ht.1 e
  · exact ht.2 e
/-- Ends are put into a set one by one. -/
def addAll (S : List St) : List St → List St
  | [] => S
  | x :: xs => addAll (if x ∈ S then S else S ++ [x]) xs
theorem addAll_app : ∀ (xs ys S : List St), addAll S (xs ++ ys) = addAll (addAll S xs) ys
  | [], _, _ => rfl
  | _x :: xs, ys, _S => addAll_app xs ys _
theorem addAll_mem : ∀ (xs S : List St) (x : St), x ∈ addAll S xs ↔ x ∈ S ∨ x ∈ xs
  | [], S, x => by simp [addAll]
  | y :: xs, S, x => by
    show x ∈ addAll (if y ∈ S then S else S ++ [y]) xs ↔ _
    rw [addAll_mem xs _ x]
    by_cases h : y ∈ S
    · rw [if_pos h, List.mem_cons]
      constructor
      · rintro (h1 | h1)
        · exact .inl h1
        · exact .inr (.inr h1)
      · rintro (h1 | rfl | h1)
        · exact .inl h1
        · exact .inl h
        · exact .inr h1
    · rw [if_neg h, List.mem_append, List.mem_singleton, List.mem_cons, or_assoc]
theorem addAll_nodup : ∀ (xs S : List St), S.Nodup → (addAll S xs).Nodup
  | [], S, h => h
  | y :: xs, S, h => by
    show (addAll (if y ∈ S then S else S ++ [y]) xs).Nodup
    refine addAll_nodup xs _ ?_
    by_cases hy : y ∈ S
    · rw [if_pos hy]; exact h
    · rw [if_neg hy, List.nodup_append]
      exact ⟨h, by simp, fun a ha b hb => by
        have : b = y := by simpa using hb
        subst this
        exact fun e => hy (by rw [← e]; exact ha)⟩

/-! States as keys. -/
theorem stv_inj {s t : St} (h : stv s = stv t) : stl s = stl t := by
  unfold stv at h
  simpa using h
theorem stv_inj4 {s t : St} (hs : W4 s) (ht : W4 t) (h : stv s = stv t) : s = t := by
  have e := stv_inj h
  obtain ⟨c, hh, a⟩ := s
  obtain ⟨c', hh', a'⟩ := t
  obtain ⟨h1, h2, h3⟩ := hs
  obtain ⟨k1, k2, k3⟩ := ht
  simp only at h1 h2 h3 k1 k2 k3
  match c, h1, c', k1, hh, h2, hh', k2, a, h3, a', k3 with
  | [c0, c1, c2, c3], _, [d0, d1, d2, d3], _, [e0, e1, e2, e3], _, [f0, f1, f2, f3], _, [g0, g1, g2, g3], _, [i0, i1, i2, i3], _ =>
    simp [stl, nv] at e
    simp only [Int.natCast_inj] at e
    obtain ⟨q0, q1, q2, q3, q4, q5, q6, q7, q8, q9, q10, q11⟩ := e
    subst q0 q1 q2 q3 q4 q5 q6 q7 q8 q9 q10 q11
    rfl
theorem vals_mem {S : List St} {s : St} (hS : ∀ t ∈ S, W4 t) (hs : W4 s) : stv s ∈ S.map stv ↔ s ∈ S := by
  refine ⟨fun hm => ?_, fun hm => List.mem_map.2 ⟨s, hm, rfl⟩⟩
  obtain ⟨d, hd, e⟩ := List.mem_map.1 hm
  rw [← stv_inj4 (hS d hd) hs e]; exact hd
theorem info3' : ∃ i, Try.prog.info? 3 = some i := by
  have h : (Try.prog.info? 3).isSome = true := by kernel_rfl
  exact Option.isSome_iff_exists.1 h

theorem ck33 (em : Bool) (d : Nat) (a b c e : Nat) (w : World) : (Instr.checkKey em (d + 2) 33 (.agg #[nv a, nv b, nv c, nv e])).run Try.prog w = .ok () w := by
  have a3 : ∀ w, (isAgg 3).run Try.prog w = .ok false w := Try.isAgg3
  have z3 : ∀ w, (Go.sizeOf 3).run Try.prog w = .ok 1 w := Try.sizeOf3
  have hk : ∀ (x : Int) (w : World), (Instr.checkKey em (d + 1) 3 (.int .i64 x)).run Try.prog w = .ok () w := fun x w => MapKept.run_checkKey (k := .int .i64 x) Try.underlying3 rfl em d
  unfold Instr.checkKey
  simp only [Sem.run_bind, run_underlying Try.underlying33, Result.andThen]
  simp [Std.Legacy.Range.forIn_eq_forIn_range', Std.Legacy.Range.size, List.range', part, Sem.run_bind, a3, z3, hk, Result.andThen, nv]
theorem eq33 (d : Nat) (a b c e a' b' c' e' : Nat) (w : World) : (Op.equalIn (d + 2) 33 (.agg #[nv a, nv b, nv c, nv e]) (.agg #[nv a', nv b', nv c', nv e'])).run Try.prog w = .ok (decide (a = a' ∧ b = b' ∧ c = c' ∧ e = e')) w := by
  obtain ⟨i, hi⟩ := info3'
  have a3 : ∀ w, (isAgg 3).run Try.prog w = .ok false w := Try.isAgg3
  have q : ∀ (x y : Int) (w : World), (Op.equalIn (d + 1) 3 (.int .i64 x) (.int .i64 y)).run Try.prog w = .ok (x == y) w := fun x y w => run_equalIn_int w d 3 .i64 .i64 x y Try.underlying3
  rw [run_equalIn_array w (d + 1) _ _ Try.underlying33 hi]
  have hcell : Try.prog.cellsOf 3 = 1 := by kernel_rfl
  simp only [hcell, show List.range 4 = [0, 1, 2, 3] from rfl]
  simp [Op.eqItems, part, Sem.run_bind, a3, q, Result.andThen, nv]
  (repeat' split) <;> (try simp_all) <;> omega
theorem fields35 : (Try.prog.fieldsOf 35).toList.map (fun f => (f.name, f.type, f.offset)) = [("Cells", 33, 0), ("Hands", 33, 4), ("At", 33, 8)] := by kernel_rfl
theorem fields35_list : ∃ f1 f2 f3 : Field, (Try.prog.fieldsOf 35).toList = [f1, f2, f3] ∧ (f1.name = "Cells" ∧ f1.type = 33 ∧ f1.offset = 0) ∧ (f2.name = "Hands" ∧ f2.type = 33 ∧ f2.offset = 4) ∧ (f3.name = "At" ∧ f3.type = 33 ∧ f3.offset = 8) := by
  have h := fields35
  generalize (Try.prog.fieldsOf 35).toList = L at h ⊢
  have hl : L.length = 3 := by have := congrArg List.length h; simpa using this
  obtain ⟨f1, f2, f3, e⟩ : ∃ f1 f2 f3, L = [f1, f2, f3] := by
    match L, hl with
    | [a, b, c], _ => exact ⟨a, b, c, rfl⟩
  subst e
  refine ⟨f1, f2, f3, rfl, ?_⟩
  simpa using h
def nl (s : St) : List Nat := [s.c.getD 0 0, s.c.getD 1 0, s.c.getD 2 0, s.c.getD 3 0, s.h.getD 0 0, s.h.getD 1 0, s.h.getD 2 0, s.h.getD 3 0, s.a.getD 0 0, s.a.getD 1 0, s.a.getD 2 0, s.a.getD 3 0]
theorem stl_nl (s : St) : stl s = (nl s).map nv := rfl
theorem nl_inj {s t : St} (h : stv s = stv t) : nl s = nl t := by
  have e := stv_inj h
  simp [stl, nv] at e
  simp [nl]
  omega
theorem key12 : KL Try.prog 35 Kst where
  check := fun w em v ⟨s, e⟩ => by
    subst e
    have z33 : ∀ w, (Go.sizeOf 33).run Try.prog w = .ok 4 w := Try.sizeOf33
    have a33 : ∀ w, (isAgg 33).run Try.prog w = .ok true w := Try.isAgg33
    have hk : ∀ a b c e w, (Instr.checkKey em 9999 33 (.agg #[nv a, nv b, nv c, nv e])).run Try.prog w = .ok () w := fun a b c e w => ck33 em 9997 a b c e w
    unfold Instr.checkKey
    simp only [Sem.run_bind, run_underlying Try.underlying35, Result.andThen, stv, stl]
    simp [part, Sem.run_bind, z33, a33, hk, Result.andThen]
  equal := fun w x y ⟨s, e⟩ ⟨t, f⟩ => by
    subst e f
    have z33 : ∀ w, (Go.sizeOf 33).run Try.prog w = .ok 4 w := Try.sizeOf33
    have a33 : ∀ w, (isAgg 33).run Try.prog w = .ok true w := Try.isAgg33
    have hk : ∀ a b c e a' b' c' e' w, (Op.equalIn 9999 33 (.agg #[nv a, nv b, nv c, nv e]) (.agg #[nv a', nv b', nv c', nv e'])).run Try.prog w = .ok (decide (a = a' ∧ b = b' ∧ c = c' ∧ e = e')) w := fun a b c e a' b' c' e' w => eq33 9997 a b c e a' b' c' e' w
    refine ⟨decide (nl s = nl t), ?_, by rw [decide_eq_true_iff]; exact ⟨fun e => by unfold stv; rw [stl_nl, stl_nl, e], nl_inj⟩⟩
    show (Op.equalIn 10000 35 (stv s) (stv t)).run Try.prog w = _
    unfold stv
    obtain ⟨f1, f2, f3, hf, ⟨n1, t1, o1⟩, ⟨n2, t2, o2⟩, n3, t3, o3⟩ := fields35_list
    rw [run_equalIn_struct w 9999 35 _ _ (by kernel_rfl) (by kernel_rfl), hf]
    simp [Op.eqFields, part, Sem.run_bind, n1, t1, o1, n2, t2, o2, n3, t3, o3, z33, a33, hk, Result.andThen, stl, nl]
    (repeat' split) <;> simp_all
  stays := fun w v ⟨s, e⟩ => by
    subst e
    simp [Instr.keyThatStays, Instr.sameBits, stv, stl, nv]
  now := ⟨_, Try.underlying35, fun x e l i ⟨s, ex⟩ ⟨t, ey⟩ => by subst ex; simp [Instr.findNow, Instr.sameNow]⟩

/-! Copies. -/
theorem info4 : (Try.prog.info? 4).map (fun i => (i.zero, i.size, i.bytes)) = some (some (.bool false), 1, 1) := by kernel_rfl
theorem info3 : (Try.prog.info? 3).map (fun i => (i.zero, i.size, i.bytes)) = some (some (.int .i64 0), 1, 8) := by kernel_rfl
theorem info22 : (Try.prog.info? 22).map (fun i => (i.zero, i.size, i.bytes)) = some (some (.slice none 0 0), 1, 24) := by kernel_rfl
theorem info35 : ∃ i, Try.prog.info? 35 = some i ∧ i.size = 12 := by
  have h : (Try.prog.info? 35).map (fun i => i.size) = some 12 := by kernel_rfl
  cases hq : Try.prog.info? 35 with
  | none => simp [hq] at h
  | some i => exact ⟨i, rfl, by simpa [hq] using h⟩
theorem clone_bools {w : World} {b n c : Nat} {f : Nat → Bool} (h : Arr w b 4 n (fun k => .bool (f k))) (hn : n ≤ 4) :
    Calls Try.prog 39 #[.slice (some ⟨b, 0, none⟩) n c] w fun e w' => ∃ g cap, e = .returned (.slice (some ⟨g, 0, none⟩) n cap) ∧ w.heap.size ≤ g ∧ n ≤ cap ∧ Arr w' g 4 n (fun k => .bool (f k)) ∧ Upd [] w w' := by
  obtain ⟨i, h1, h2, h3, h4⟩ := info_parts info4
  refine (Try.slices_Clone_f39 i _ 1 1 h1 h2 h3 h4 rfl (by decide) Try.sizeOf4 b 0 n c ((List.range n).map (fun k => .bool (f k))) w (by simp) (by unfold maxLen; omega) (by omega) (fun j u hj => ?_) (fun u hu => ?_)).mono ?_
  · rw [Nat.zero_add]
    rw [List.getElem?_map] at hj
    by_cases hjn : j < n
    · rw [List.getElem?_range hjn] at hj
      have : u = .bool (f j) := by simpa using hj.symm
      subst this; exact h.cell hjn
    · rw [List.getElem?_eq_none (by simpa using Nat.le_of_not_lt hjn)] at hj; cases hj
  · obtain ⟨k, _, rfl⟩ := List.mem_map.1 hu; rfl
  · rintro e w' ⟨v', rfl, ho, hne, hb⟩
    rcases ho.2 with ⟨rfl, hz⟩ | ⟨g, cap, cur, rfl, hg, hb', hc1, hc2, hc3, hc4⟩
    · exact absurd rfl hne
    · refine ⟨g, cap, rfl, hg, hc1, ⟨cur, hb', by rw [hc3]; omega, fun z hz => ?_⟩, Upd.of_below hb []⟩
      have : (cur.toList.take (n * 1))[z]? = some (.bool (f z)) := by
        rw [hc4, List.getElem?_map, List.getElem?_range hz]; rfl
      rw [List.getElem?_take, if_pos (by omega)] at this
      simpa using this
theorem clone_ints {w : World} {a : Option Addr} {l : List Nat} {c : Nat} (h : IntsAt w a l) (hn : l.length ≤ 1000) :
    Calls Try.prog 41 #[.slice a l.length c] w fun e w' => ∃ u, e = .returned u ∧ OrdAt w' u l ∧ Upd [] w w' := by
  rcases h with ⟨rfl, rfl⟩ | ⟨b, cs, rfl, hb, hcs⟩
  · refine (Try.slices_Clone_int_nil 0 c w).mono ?_
    rintro e w' ⟨rfl, rfl⟩
    exact ⟨_, rfl, ⟨none, 0, rfl, Nat.le_refl _, by omega, .inl ⟨rfl, rfl⟩⟩, Upd.refl _ _⟩
  · obtain ⟨i, h1, h2, h3, h4⟩ := info_parts info3
    refine (Try.slices_Clone_f41 i _ 1 8 h1 h2 h3 h4 rfl (by decide) Try.sizeOf3 b 0 l.length c (l.map nv) w (by simp) (by unfold maxLen; omega) (by omega) (fun j u hj => ?_) (fun u hu => ?_)).mono ?_
    · rw [Nat.zero_add, K.blk_cell hb]
      rw [List.getElem?_map] at hj
      by_cases hjn : j < l.length
      · rw [hcs j hjn, List.getD_eq_getElem?_getD]
        rw [List.getElem?_eq_getElem hjn] at hj ⊢
        simpa using hj
      · rw [List.getElem?_eq_none (Nat.le_of_not_lt hjn)] at hj; cases hj
    · obtain ⟨k, _, rfl⟩ := List.mem_map.1 hu; rfl
    · rintro e w' ⟨v', rfl, ho, hne, hbl⟩
      rcases ho.2 with ⟨rfl, hz⟩ | ⟨g, cap, cur, rfl, hg, hb', hc1, hc2, hc3, hc4⟩
      · exact absurd rfl hne
      · refine ⟨_, rfl, ⟨_, cap, rfl, hc1, by unfold maxLen at hc2; omega, .inr ⟨g, cur, rfl, hb', fun z hz => ?_⟩⟩, Upd.of_below hbl []⟩
        have : (cur.toList.take (l.length * 1))[z]? = some (nv (l.getD z 0)) := by
          rw [hc4, List.getElem?_map, List.getD_eq_getElem?_getD, List.getElem?_eq_getElem hz]; rfl
        rw [List.getElem?_take, if_pos (by omega)] at this
        simpa using this
theorem makeB (n : Nat) (hn : n ≤ 200) : ∀ w, (Instr.makeSlice 64 (.int .i64 (n : Int)) (.int .i64 (n : Int))).run Try.prog w = .ok (.slice (some ⟨w.heap.size, 0, none⟩) n n) (w.alloc (.cells (List.replicate n (.bool false)).toArray 4)) := fun w => by
  obtain ⟨i4, h4, hz0, hz1, hz2⟩ := info_parts info4
  have := run_make (P := Try.prog) w 64 4 i4 _ Try.underlying64 h4 hz0 .i64 .i64 (n : Int) (n : Int) (by omega) (by omega) (by rw [hz2]; omega) (by omega)
  rw [this, Int.toNat_natCast, hz1, Nat.mul_one]
  have e : madeCells (Value.bool false).cells n = (List.replicate n (Value.bool false)).toArray := by
    apply Array.ext'
    rw [show (Value.bool false).cells = #[.bool false] from rfl, toList_madeCells_one]
  rw [e]
end Go.Proofs.Ytklacfdbpmkiiaa.Y
