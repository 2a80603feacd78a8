/- A world of weights in memory; its reading functions. -/
import Derived.Test.YtmdhhembkmkfdaaProg
import Derived.Test.YtmdhhembkmkfdaaO
import Derived.Test.YtmdhhembkmkfdaaR
namespace Go.Proofs.Ytmdhhembkmkfdaa.Wt
open Go Go.RowKit Go.Proofs.Ytmdhhembkmkfdaa.K Go.Proofs.Ytmdhhembkmkfdaa.M Go.Proofs.Ytmdhhembkmkfdaa.O

structure Thing where
  home : Nat
  out : Nat
  freed : Bool
structure Way where
  to : Nat
  thing : Nat
  wt : Nat
  back : Bool
structure Wd where
  nodes : Nat
  things : List Thing
  has : Nat → Nat → Nat
  way : List Way
def noThing : Thing := ⟨0, 0, false⟩
def noWay : Way := ⟨0, 0, 0, false⟩
def thingVals (t : Thing) : List Value := [.int .i64 (t.home : Int), .int .i64 (t.out : Int), .bool t.freed]
def wayVals (x : Way) : List Value := [.int .i64 (x.to : Int), .int .i64 (x.thing : Int), .int .i64 (x.wt : Int), .bool x.back]
def thingCells (l : List Thing) : List Value := l.flatMap thingVals
def wayCells (l : List Way) : List Value := l.flatMap wayVals
theorem thingCells_snoc (l : List Thing) (t : Thing) : thingCells (l ++ [t]) = thingCells l ++ thingVals t := by simp [thingCells]
theorem wayCells_snoc (l : List Way) (t : Way) : wayCells (l ++ [t]) = wayCells l ++ wayVals t := by simp [wayCells]
theorem thingCells_get : ∀ (l : List Thing) (i : Nat), i < l.length →
    (thingCells l)[i * 3]? = some (.int .i64 ((l.getD i noThing).home : Int)) ∧ (thingCells l)[i * 3 + 1]? = some (.int .i64 ((l.getD i noThing).out : Int)) ∧ (thingCells l)[i * 3 + 2]? = some (.bool (l.getD i noThing).freed)
  | [], i, h => by simp at h
  | x :: l, 0, _ => by simp [thingCells, thingVals]
  | x :: l, i + 1, h => by
    have ih := thingCells_get l i (by simpa using h)
    simp only [thingCells, thingVals, List.flatMap_cons, List.getD_cons_succ] at ih ⊢
    refine ⟨?_, ?_, ?_⟩
    · rw [List.getElem?_append_right (by simp; omega)]; simpa [show (i + 1) * 3 - 3 = i * 3 by omega] using ih.1
    · rw [List.getElem?_append_right (by simp; omega)]; simpa [show (i + 1) * 3 + 1 - 3 = i * 3 + 1 by omega] using ih.2.1
    · rw [List.getElem?_append_right (by simp; omega)]; simpa [show (i + 1) * 3 + 2 - 3 = i * 3 + 2 by omega] using ih.2.2
theorem wayCells_get : ∀ (l : List Way) (i : Nat), i < l.length →
    (wayCells l)[i * 4]? = some (.int .i64 ((l.getD i noWay).to : Int)) ∧ (wayCells l)[i * 4 + 1]? = some (.int .i64 ((l.getD i noWay).thing : Int)) ∧ (wayCells l)[i * 4 + 2]? = some (.int .i64 ((l.getD i noWay).wt : Int)) ∧ (wayCells l)[i * 4 + 3]? = some (.bool (l.getD i noWay).back)
  | [], i, h => by simp at h
  | x :: l, 0, _ => by simp [wayCells, wayVals]
  | x :: l, i + 1, h => by
    have ih := wayCells_get l i (by simpa using h)
    simp only [wayCells, wayVals, List.flatMap_cons, List.getD_cons_succ] at ih ⊢
    refine ⟨?_, ?_, ?_, ?_⟩
    · rw [List.getElem?_append_right (by simp; omega)]; simpa [show (i + 1) * 4 - 4 = i * 4 by omega] using ih.1
    · rw [List.getElem?_append_right (by simp; omega)]; simpa [show (i + 1) * 4 + 1 - 4 = i * 4 + 1 by omega] using ih.2.1
    · rw [List.getElem?_append_right (by simp; omega)]; simpa [show (i + 1) * 4 + 2 - 4 = i * 4 + 2 by omega] using ih.2.2.1
    · rw [List.getElem?_append_right (by simp; omega)]; simpa [show (i + 1) * 4 + 3 - 4 = i * 4 + 3 by omega] using ih.2.2.2

/-- A node's references: a map whose missing entries count as 0. -/
def HasMap (w : World) (b : Nat) (f : Nat → Nat) : Prop := ∃ m, IsMap w b m ∧ (m.map (·.1)).Nodup ∧ ∀ t : Nat, (mlook m (t : Int)).getD (.int .i64 0) = .int .i64 (f t : Int)
theorem HasMap.upd {S : List Nat} {w w' : World} {b : Nat} {f : Nat → Nat} (h : HasMap w b f) (u : Upd S w w') (hs : b ∉ S) : HasMap w' b f :=
  let ⟨m, h1, h2, h3⟩ := h; ⟨m, h1.upd u hs, h2, h3⟩
theorem mput_keys (k : Int) (v : Value) : ∀ (m : Mp), (m.map (·.1)).Nodup → ((mput m k v).map (·.1)).Nodup ∧ ∀ x ∈ (mput m k v).map (·.1), x = k ∨ x ∈ m.map (·.1)
  | [], _ => by simp [mput]
  | p :: m, h => by
    simp only [List.map_cons, List.nodup_cons] at h
    obtain ⟨h1, h2⟩ := h
    obtain ⟨i1, i2⟩ := mput_keys k v m h2
    by_cases e : p.1 = k
    · simp only [mput, e, if_true, List.map_cons, List.nodup_cons]
      exact ⟨⟨by rw [← e]; exact h1, h2⟩, fun x hx => by simp at hx; rcases hx with hx | hx; exact .inl hx; exact .inr (by simp; exact .inr hx)⟩
    · simp only [mput, e, if_false, List.map_cons, List.nodup_cons]
      refine ⟨⟨fun hm => ?_, i1⟩, fun x hx => ?_⟩
      · rcases i2 _ hm with a | a
        · exact e a
        · exact h1 a
      · rcases List.mem_cons.1 hx with a | a
        · exact .inr (by simp [a])
        · rcases i2 x a with c | c
          · exact .inl c
          · exact .inr (by simp at c ⊢; exact .inr c)
theorem mlook_absent (k : Int) : ∀ (m : Mp), k ∉ m.map (·.1) → mlook m k = none
  | [], _ => rfl
  | p :: m, h => by
    simp only [List.map_cons, List.mem_cons, not_or] at h
    rw [mlook_cons, if_neg (fun e => h.1 e.symm)]
    exact mlook_absent k m h.2
theorem mlook_del (k : Int) : ∀ (m : Mp), (m.map (·.1)).Nodup → ∀ j, mlook (mdel m k) j = if k = j then none else mlook m j
  | [], _, j => by simp [mdel, mlook_nil]
  | p :: m, h, j => by
    simp only [List.map_cons, List.nodup_cons] at h
    by_cases e : p.1 = k
    · simp only [mdel, e, if_true]
      by_cases c : k = j
      · rw [if_pos c]
        exact mlook_absent j m (by rw [← c, ← e]; exact h.1)
      · rw [if_neg c, mlook_cons, if_neg (fun q => c (e ▸ q))]
    · simp only [mdel, e, if_false]
      rw [mlook_cons, mlook_cons, mlook_del k m h.2 j]
      by_cases c : k = j
      · subst c; simp [e]
      · simp [c]
theorem mdel_keys (k : Int) : ∀ (m : Mp), (m.map (·.1)).Nodup → ((mdel m k).map (·.1)).Nodup ∧ ∀ x ∈ (mdel m k).map (·.1), x ∈ m.map (·.1)
  | [], _ => by simp [mdel]
  | p :: m, h => by
    simp only [List.map_cons, List.nodup_cons] at h
    obtain ⟨i1, i2⟩ := mdel_keys k m h.2
    by_cases e : p.1 = k
    · simp only [mdel, e, if_true]
      exact ⟨h.2, fun x hx => by simp at hx ⊢; exact .inr hx⟩
    · simp only [mdel, e, if_false, List.map_cons, List.nodup_cons]
      refine ⟨⟨fun hm => h.1 (i2 _ hm), i1⟩, fun x hx => ?_⟩
      rcases List.mem_cons.1 hx with a | a
      · simp [a]
      · have := i2 x a; simp at this ⊢; exact .inr this
/-- f with another number at t. -/
def at1 (f : Nat → Nat) (t v : Nat) : Nat → Nat := fun x => if x = t then v else f x
theorem HasMap.of_put {w' : World} {b : Nat} {m : Mp} {f : Nat → Nat} (hn : (m.map (·.1)).Nodup) (hf : ∀ t : Nat, (mlook m (t : Int)).getD (.int .i64 0) = .int .i64 (f t : Int)) {t v : Nat} (h : IsMap w' b (mput m (t : Int) (.int .i64 (v : Int)))) : HasMap w' b (at1 f t v) := by
  refine ⟨_, h, (mput_keys _ _ m hn).1, fun x => ?_⟩
  rw [mlook_put]
  unfold at1
  by_cases c : x = t
  · subst c; simp
  · rw [if_neg (by omega), if_neg c]; exact hf x
theorem HasMap.of_del {w' : World} {b : Nat} {m : Mp} {f : Nat → Nat} (hn : (m.map (·.1)).Nodup) (hf : ∀ t : Nat, (mlook m (t : Int)).getD (.int .i64 0) = .int .i64 (f t : Int)) {t : Nat} (h : IsMap w' b (mdel m (t : Int))) : HasMap w' b (at1 f t 0) := by
  refine ⟨_, h, (mdel_keys _ m hn).1, fun x => ?_⟩
  rw [mlook_del _ m hn]
  unfold at1
  by_cases c : x = t
  · subst c; simp
  · rw [if_neg (by omega), if_neg c]; exact hf x

/-- In world w the world s of weights lies behind the pointer to block g; all of it in blocks from B on. -/
structure IsW (w : World) (B g : Nat) (s : Wd) (v1 v2 v3 : Value) (bs : List Nat) : Prop where
  blk : w.heap[g]? = some (.cells #[.int .i64 (s.nodes : Int), v1, v2, v3] 87 (0, 0))
  things : w.ownsRow B 90 3 v1 s.things.length (thingCells s.things)
  has : w.ownsRow B 88 1 v2 s.nodes (bs.map (fun b => Value.map (some b)))
  way : w.ownsRow B 92 4 v3 s.way.length (wayCells s.way)
  len : bs.length = s.nodes
  maps : ∀ n, n < s.nodes → B ≤ bs.getD n 0 ∧ HasMap w (bs.getD n 0) (s.has n)
  dis : bs.Nodup
  gB : B ≤ g
theorem IsW.mapNe {w : World} {B g : Nat} {s : Wd} {v1 v2 v3 : Value} {bs : List Nat} (h : IsW w B g s v1 v2 v3 bs) {n : Nat} (hn : n < s.nodes) : bs.getD n 0 ≠ g := fun e => by
  obtain ⟨-, m, hm, -⟩ := h.maps n hn
  exact hm.ne_cells h.blk e
theorem IsW.upd {w w' : World} {B g : Nat} {s : Wd} {v1 v2 v3 : Value} {bs : List Nat} (h : IsW w B g s v1 v2 v3 bs) (u : Upd [] w w') : IsW w' B g s v1 v2 v3 bs :=
  ⟨u.blk h.blk (by simp), own_new h.things u, own_new h.has u, own_new h.way u, h.len, fun n hn => ⟨(h.maps n hn).1, (h.maps n hn).2.upd u (by simp)⟩, h.dis, h.gB⟩
theorem ptrs_get {bs : List Nat} {n : Nat} (h : n < bs.length) : (bs.map (fun b => Value.map (some b)))[n]? = some (.map (some (bs.getD n 0))) := by
  simp [List.getD_eq_getElem?_getD, h]
theorem IsW.ptr {w : World} {B g : Nat} {s : Wd} {v1 v2 v3 : Value} {bs : List Nat} (h : IsW w B g s v1 v2 v3 bs) {n : Nat} (hn : n < s.nodes) :
    ∃ g2 cap, v2 = .slice (some ⟨g2, 0, none⟩) s.nodes cap ∧ w.cell? ⟨g2, n, none⟩ = some (.map (some (bs.getD n 0))) ∧ s.nodes ≤ cap ∧ cap ≤ 9223372036854775807 := by
  obtain ⟨a, cap, e, h1, h2, hc⟩ := own_view h.has
  obtain ⟨g2, e2, -, hcell, -⟩ := hc n _ (ptrs_get (by rw [h.len]; exact hn))
  subst e2
  exact ⟨g2, cap, e, hcell, h1, h2⟩
theorem IsW.len1 {w : World} {B g : Nat} {s : Wd} {v1 v2 v3 : Value} {bs : List Nat} (h : IsW w B g s v1 v2 v3 bs) : ∃ a cap, v1 = .slice a s.things.length cap ∧ s.things.length ≤ cap ∧ cap ≤ 9223372036854775807 := by
  obtain ⟨a, cap, e, h1, h2, _⟩ := own_view h.things; exact ⟨a, cap, e, h1, h2⟩
theorem IsW.len3 {w : World} {B g : Nat} {s : Wd} {v1 v2 v3 : Value} {bs : List Nat} (h : IsW w B g s v1 v2 v3 bs) : ∃ a cap, v3 = .slice a s.way.length cap ∧ s.way.length ≤ cap ∧ cap ≤ 9223372036854775807 := by
  obtain ⟨a, cap, e, h1, h2, _⟩ := own_view h.way; exact ⟨a, cap, e, h1, h2⟩
theorem IsW.thing {w : World} {B g : Nat} {s : Wd} {v1 v2 v3 : Value} {bs : List Nat} (h : IsW w B g s v1 v2 v3 bs) {t : Nat} (ht : t < s.things.length) :
    ∃ g1 cap, v1 = .slice (some ⟨g1, 0, none⟩) s.things.length cap ∧ w.cell? ⟨g1, t * 3, none⟩ = some (.int .i64 ((s.things.getD t noThing).home : Int)) ∧ w.cell? ⟨g1, t * 3 + 1, none⟩ = some (.int .i64 ((s.things.getD t noThing).out : Int)) ∧ w.cell? ⟨g1, t * 3 + 2, none⟩ = some (.bool (s.things.getD t noThing).freed) ∧ (∀ j, w.frozen? ⟨g1, j, none⟩ = false) ∧ s.things.length ≤ cap ∧ cap ≤ 9223372036854775807 := by
  obtain ⟨a, cap, e, h1, h2, hc⟩ := own_view h.things
  obtain ⟨c0, c1, c2⟩ := thingCells_get s.things t ht
  obtain ⟨g1, e1, -, d0, fr⟩ := hc _ _ c0
  obtain ⟨g2, e2, -, d1, -⟩ := hc _ _ c1
  obtain ⟨g3, e3, -, d2, -⟩ := hc _ _ c2
  subst e1
  cases e2
  cases e3
  exact ⟨g1, cap, e, d0, d1, d2, fr, h1, h2⟩
theorem IsW.wayAt {w : World} {B g : Nat} {s : Wd} {v1 v2 v3 : Value} {bs : List Nat} (h : IsW w B g s v1 v2 v3 bs) {i : Nat} (hi : i < s.way.length) :
    ∃ g3 cap, v3 = .slice (some ⟨g3, 0, none⟩) s.way.length cap ∧ w.cell? ⟨g3, i * 4, none⟩ = some (.int .i64 ((s.way.getD i noWay).to : Int)) ∧ w.cell? ⟨g3, i * 4 + 1, none⟩ = some (.int .i64 ((s.way.getD i noWay).thing : Int)) ∧ w.cell? ⟨g3, i * 4 + 2, none⟩ = some (.int .i64 ((s.way.getD i noWay).wt : Int)) ∧ w.cell? ⟨g3, i * 4 + 3, none⟩ = some (.bool (s.way.getD i noWay).back) ∧ s.way.length ≤ cap ∧ cap ≤ 9223372036854775807 := by
  obtain ⟨a, cap, e, h1, h2, hc⟩ := own_view h.way
  obtain ⟨c0, c1, c2, c3⟩ := wayCells_get s.way i hi
  obtain ⟨g1, e1, -, d0, -⟩ := hc _ _ c0
  obtain ⟨g2, e2, -, d1, -⟩ := hc _ _ c1
  obtain ⟨g3, e3, -, d2, -⟩ := hc _ _ c2
  obtain ⟨g4, e4, -, d3, -⟩ := hc _ _ c3
  subst e1
  cases e2
  cases e3
  cases e4
  exact ⟨g1, cap, e, d0, d1, d2, d3, h1, h2⟩
theorem IsW.c0 {w : World} {B g : Nat} {s : Wd} {v1 v2 v3 : Value} {bs : List Nat} (h : IsW w B g s v1 v2 v3 bs) : w.cell? ⟨g, 0, none⟩ = some (.int .i64 (s.nodes : Int)) ∧ w.cell? ⟨g, 1, none⟩ = some v1 ∧ w.cell? ⟨g, 2, none⟩ = some v2 ∧ w.cell? ⟨g, 3, none⟩ = some v3 ∧ ∀ j, w.frozen? ⟨g, j, none⟩ = false :=
  ⟨(blk_cell h.blk 0).trans rfl, (blk_cell h.blk 1).trans rfl, (blk_cell h.blk 2).trans rfl, (blk_cell h.blk 3).trans rfl, blk_frozen h.blk⟩

set_option maxHeartbeats 1000000 in
theorem node_any {w : World} {B g : Nat} {s : Wd} {v1 v2 v3 : Value} {bs : List Nat} (h : IsW w B g s v1 v2 v3 bs) (n : Nat) :
    Calls Try.prog 61 #[.pointer (some ⟨g, 0, none⟩), .int .i64 (n : Int)] w fun e w' => e = .returned (.bool (decide (n < s.nodes))) ∧ w' = w := by
  obtain ⟨c0, -⟩ := h.c0
  clear h
  go_enter Try.func61, Try.ntmps61
  go_wp2_with fail
  go_ret
  exact ⟨rfl, rfl⟩

/-- What check answers. -/
def chk (s : Wd) (n t : Nat) : Nat := if n < s.nodes ∧ t < s.things.length then (if s.has n t = 0 then 4 else 0) else 1
set_option maxHeartbeats 2000000 in
set_option maxRecDepth 100000 in
theorem check_any {w : World} {B g : Nat} {s : Wd} {v1 v2 v3 : Value} {bs : List Nat} (h : IsW w B g s v1 v2 v3 bs) (n t : Nat) :
    Calls Try.prog 62 #[.pointer (some ⟨g, 0, none⟩), .int .i64 (n : Int), .int .i64 (t : Int)] w fun e w' => e = .returned (.int .i64 (chk s n t : Int)) ∧ w' = w := by
  obtain ⟨c0, c1, c2, -⟩ := h.c0
  have nd := node_any h n
  obtain ⟨a1, k1, e1, l1, l2⟩ := h.len1
  subst e1
  by_cases hn : n < s.nodes
  · by_cases ht : t < s.things.length
    · have ht' : ¬ (s.things.length : Int) ≤ (t : Int) := by omega
      obtain ⟨g2, k2, e2, d2, l3, l4⟩ := h.ptr hn
      subst e2
      obtain ⟨-, m, hm, -, hf⟩ := h.maps n hn
      have lk := (run_look (P := Try.prog) hm Try.underlying88 Try.underlying3 (Try.zeroValue3 _) (t : Int)).1
      rw [hf t] at lk
      obtain ⟨b, hb⟩ : ∃ b, b = bs.getD n 0 := ⟨_, rfl⟩
      rw [← hb] at lk d2
      have hn' : (n : Int) < (s.nodes : Int) := by omega
      rw [decide_eq_true hn] at nd
      have e : chk s n t = if s.has n t = 0 then 4 else 0 := if_pos ⟨hn, ht⟩
      rw [e]
      clear e h hm hf hn ht hb
      by_cases hz : s.has n t = 0
      · rw [if_pos hz]; rw [hz] at lk
        clear hz
        go_enter Try.func62, Try.ntmps62
        go_wp2_with fail
        refine nd.mono ?_
        rintro e w' ⟨rfl, rfl⟩
        go_wp2_with fail
        go_ret
        exact ⟨rfl, rfl⟩
      · rw [if_neg hz]
        have hz' : ((s.has n t : Int) == 0) = false := by rw [beq_eq_false_iff_ne]; omega
        clear hz
        go_enter Try.func62, Try.ntmps62
        go_wp2_with fail
        refine nd.mono ?_
        rintro e w' ⟨rfl, rfl⟩
        go_wp2_with fail
        go_ret
        exact ⟨rfl, rfl⟩
    · have ht' : (s.things.length : Int) ≤ (t : Int) := by omega
      rw [decide_eq_true hn] at nd
      have e : chk s n t = 1 := if_neg (fun q => ht q.2)
      rw [e]
      clear e h hn ht
      go_enter Try.func62, Try.ntmps62
      go_wp2_with fail
      refine nd.mono ?_
      rintro e w' ⟨rfl, rfl⟩
      go_wp2_with fail
      go_ret
      exact ⟨rfl, rfl⟩
  · rw [decide_eq_false hn] at nd
    have e : chk s n t = 1 := if_neg (fun q => hn q.1)
    rw [e]
    clear e h hn
    go_enter Try.func62, Try.ntmps62
    go_wp2_with fail
    refine nd.mono ?_
    rintro e w' ⟨rfl, rfl⟩
    go_wp2_with fail
    go_ret
    exact ⟨rfl, rfl⟩
end Go.Proofs.Ytmdhhembkmkfdaa.Wt
