/- Names: nodes in memory, some of them behind a row of pointers; two nodes hear of four others in different orders. -/
import Derived.Test.YtbkhjmdklghbiaaDoorNu
namespace Go.Proofs.YtbkhjmdklghbiaaDoor.Nm
open Go Go.RowKit Go.Proofs.YtbkhjmdklghbiaaDoor Go.Proofs.YtbkhjmdklghbiaaDoor.K Go.Proofs.YtbkhjmdklghbiaaDoor.M Go.Proofs.YtbkhjmdklghbiaaDoor.O Go.Proofs.YtbkhjmdklghbiaaDoor.R

/-- n nodes in memory; the pointers to the first m of them lie in block q; the blocks of Z are left alone. -/
structure Mn (B q n m k : Nat) (Z : List Nat) (g : Nat → Nat) (w0 w : World) (s : Nat → G) : Prop where
  net : Net B Z n w g s
  own : w.ownsRow B 28 1 (.slice (some ⟨q, 0, none⟩) m k) m (ptrs g m)
  qz : q ∈ Z
  upd : Upd [] w0 w
  low : w0.heap.size ≤ B
  base : B ≤ w.heap.size
section
variable {B q n m k : Nat} {Z : List Nat} {g : Nat → Nat} {w0 w w' : World} {s s' : Nat → G} {b : Nat}
theorem Mn.ptr (h : Mn B q n m k Z g w0 w s) {i : Nat} (hi : i < m) : w.cell? ⟨q, i, none⟩ = some (.pointer (some ⟨g i, 0, none⟩)) := by
  obtain ⟨q', k', e, c⟩ := ptr_at h.own hi
  cases e
  exact c
theorem Mn.new (h : Mn B q n m k Z g w0 w s) (u : Upd [] w w') : Mn B q n m k Z g w0 w' s :=
  ⟨h.net.new u, own_new h.own u, h.qz, h.upd.trans u (fun x hx => by cases hx), h.low, Nat.le_trans h.base u.size⟩
theorem Mn.more (h : Mn B q n m k Z g w0 w s) (u : Upd [] w w') (Y : List Nat) (hY : ∀ z ∈ Y, w.heap.size ≤ z ∧ z < w'.heap.size) : Mn B q n m k (Y ++ Z) g w0 w' s :=
  ⟨h.net.more u Y hY, own_new h.own u, List.mem_append.2 (.inr h.qz), h.upd.trans u (fun x hx => by cases hx), h.low, Nat.le_trans h.base u.size⟩
theorem Mn.far (h : Mn B q n m k Z g w0 w s) (hn : Net B Z n w' g s') (f : Far B Z w w') : Mn B q n m k Z g w0 w' s' :=
  ⟨hn, f.own h.own (fun x hx => by simp [Value.ownBlock] at hx; rw [← hx]; exact h.qz), h.qz, f.upd_le h.low h.upd, h.low, Nat.le_trans h.base f.size⟩
theorem Mn.add (h : Mn B q n m k Z g w0 w s) (hm : m ≤ n) (u : Upd [] w w') {F' : List Nat} {g' : Nat} {x : G} (h1 : IsG w' F' g' x) (h2 : ∀ x ∈ F', w.heap.size ≤ x) : Mn B q (n + 1) m k Z (upf g n g') w0 w' (upf s n x) :=
  ⟨h.net.add u h.base h1 h2, by
    have e : ptrs (upf g n g') m = ptrs g m := List.map_congr_left (fun i hi => by rw [upf_ne _ _ _ _ (by have := List.mem_range.1 hi; omega)])
    rw [e]; exact own_new h.own u, h.qz, h.upd.trans u (fun x hx => by cases hx), h.low, Nat.le_trans h.base u.size⟩
theorem Mn.keep {S : List Nat} (h : Mn B q n m k Z g w0 w s) (u : Upd S w w') (hS : ∀ x ∈ S, x ∈ Z ∧ x ≠ q ∧ w0.heap.size ≤ x) : Mn B q n m k Z g w0 w' s :=
  ⟨h.net.turn u (fun x hx => (hS x hx).1) (fun z hz => ⟨.inl hz, by have := h.net.zlt z hz; have := u.size; omega⟩), own_upd h.own u (fun x hx hs => by simp [Value.ownBlock] at hx; exact (hS x hs).2.1 hx.symm), h.qz, h.upd.trans u (fun x hx => .inr (hS x hx).2.2), h.low, Nat.le_trans h.base u.size⟩
theorem reg_mn (n : Nat) (a : Option Addr) (len cap : Nat) (xs : List Int) (w0 w : World) (h1 : 1 ≤ n) (h8 : n ≤ 8) (hx : IntRow w a xs) (hl : xs.length = len) (hlc : len ≤ cap) (hc : cap ≤ 9223372036854775807) (u : Upd [] w0 w) :
    Calls Tryd.prog 9 #[.int .i64 (n : Int), .slice a len cap] w fun e w' => ∃ B q k g s, e = .returned (.tuple #[.slice (some ⟨q, 0, none⟩) n k, .bool true]) ∧ Mn B q n n k [q] g w0 w' s ∧ ∀ i, i < n → Nd (s i) i 150 := by
  refine (register_any n a len cap xs w h1 h8 hx hl hlc hc).mono ?_
  rintro e w1 ⟨v, rfl, ⟨g, s, ho, hn, hb⟩, hu⟩
  obtain ⟨q, k, e, -⟩ := ptr_at ho (i := 0) (by omega)
  subst e
  exact ⟨w.heap.size, q, k, g, s, rfl, ⟨hn, ho, by simp, u.trans hu (fun x hx => by cases hx), u.size, hu.size⟩, hb⟩
theorem mn_state (h : Mn B q n m k Z g w0 w s) {i : Nat} (hi : i < n) (ho : Ok (s i) b) :
    Calls Tryd.prog 12 #[.pointer (some ⟨g i, 0, none⟩)] w fun e w' => ∃ a c, e = .returned (.slice a (s i).rows.length c) ∧ (s i).rows.length ≤ c ∧ c ≤ 9223372036854775807 ∧ RowAt w' a (s i).rows ∧ Mn B q n m k (blkOf a ++ Z) g w0 w' s ∧ Upd [] w w' ∧ ∀ z ∈ blkOf a, w.heap.size ≤ z ∧ z < w'.heap.size := by
  refine (net_state' h.net hi ho).mono ?_
  rintro e w' ⟨a, c, rfl, h0, h1, h2, h3, hu⟩
  exact ⟨a, c, rfl, h0, h1, h2, h.more hu _ h3, hu, h3⟩
theorem mn_all (h : Mn B q n m k Z g w0 w s) {i : Nat} (hi : i < n) (ho : Ok (s i) b) :
    Calls Tryd.prog 19 #[.pointer (some ⟨g i, 0, none⟩)] w fun e w' => ∃ a c, e = .returned (.slice a (allOf (s i).rows).length c) ∧ (allOf (s i).rows).length ≤ c ∧ c ≤ 9223372036854775807 ∧ NmAt w' a (allOf (s i).rows) ∧ Mn B q n m k (blkOf a ++ Z) g w0 w' s ∧ Upd [] w w' ∧ ∀ z ∈ blkOf a, w.heap.size ≤ z ∧ z < w'.heap.size := by
  refine (net_all' h.net hi ho).mono ?_
  rintro e w' ⟨a, c, rfl, h0, h1, h2, h3, hu⟩
  exact ⟨a, c, rfl, h0, h1, h2, h.more hu _ h3, hu, h3⟩
theorem mn_merge (h : Mn B q n m k Z g w0 w s) {i : Nat} (hi : i < n) (ho : Ok (s i) b) (hb : b ≤ 1000) (a : Option Addr) (c : Nat) (l : List Row) (hk : WF l) (hkb : RB l b) (hr : RowAt w a l) :
    Calls Tryd.prog 11 #[.pointer (some ⟨g i, 0, none⟩), .slice a l.length c] w fun e w' => e = .returned (.int .i64 0) ∧ Mn B q n m k Z g w0 w' (upf s i (gmerge (s i) l)) ∧ Far B Z w w' := by
  refine (net_merge' h.net hi h.base ho hb a l.length c l rfl hk hkb hr).mono ?_
  rintro e w' ⟨rfl, h1, h2⟩
  exact ⟨rfl, h.far h1 h2, h2⟩
theorem mn_set (h : Mn B q n m k Z g w0 w s) {i : Nat} (hi : i < n) (ho : Ok (s i) b) (hb : b ≤ 1000) (t r : Nat) (ht : t < 7) (hr : 1 ≤ r) :
    Calls Tryd.prog 13 #[.pointer (some ⟨g i, 0, none⟩), .string (nmS t), .int .i64 (r : Int)] w fun e w' => e = .returned (.int .i64 0) ∧ Mn B q n m k Z g w0 w' (upf s i (gset (s i) t r)) := by
  refine (net_set h.net hi h.base ho hb t r ht hr).mono ?_
  rintro e w' ⟨rfl, h1, h2⟩
  exact ⟨rfl, h.far h1 h2⟩
theorem mn_drop (h : Mn B q n m k Z g w0 w s) {i : Nat} (hi : i < n) (ho : Ok (s i) b) (hb : b ≤ 1000) (t : Nat) (ht : t < 7) :
    Calls Tryd.prog 14 #[.pointer (some ⟨g i, 0, none⟩), .string (nmS t)] w fun e w' => e = .returned (.int .i64 (if refOf (s i).rows t = 0 then 4 else 0)) ∧ Mn B q n m k Z g w0 w' (upf s i (gdrop (s i) t)) := by
  refine (net_drop h.net hi h.base ho hb t ht).mono ?_
  rintro e w' ⟨rfl, h1, h2⟩
  exact ⟨rfl, h.far h1 h2⟩
theorem mn_find (h : Mn B q n m k Z g w0 w s) {i : Nat} (hi : i < n) (ho : Ok (s i) b) (t : Nat) (ht : t < 7) :
    Calls Tryd.prog 15 #[.pointer (some ⟨g i, 0, none⟩), .string (nmS t)] w fun e w' => e = .returned (.tuple #[.int .i64 ((refOf (s i).rows t : Nat) : Int), .int .i64 (if refOf (s i).rows t = 0 then 4 else 0)]) ∧ Mn B q n m k Z g w0 w' s := by
  refine (net_find h.net hi ho t ht).mono ?_
  rintro e w' ⟨rfl, h2⟩
  exact ⟨rfl, h.new h2⟩
theorem Mn.less (h : Mn B q n m k Z g w0 w s) {Z' : List Nat} (hz : ∀ z ∈ Z', z ∈ Z) (hq : q ∈ Z') : Mn B q n m k Z' g w0 w s :=
  ⟨h.net.turn (Upd.refl [] w) (fun x hx => by cases hx) (fun z hz' => ⟨.inl (hz z hz'), h.net.zlt z (hz z hz')⟩), h.own, hq, h.upd, h.low, h.base⟩
end
/-- Node 4 has heard of the first ca of four, node 5 of the last cb. -/
structure Jn (t s : Nat → G) (ca cb : Nat) : Prop where
  ok : ∀ z, z < 6 → Ok (s z) 150
  same : ∀ z, z < 4 → (s z).rows = (t z).rows
  a : ∃ P, Rep (s 4).rows P ∧ (∀ x, P x → Uni t 4 x) ∧ ∀ z, z < ca → ∀ x ∈ (t z).rows, P x
  b : ∃ P, Rep (s 5).rows P ∧ (∀ x, P x → Uni t 4 x) ∧ ∀ z, z < 4 → 4 ≤ z + cb → ∀ x ∈ (t z).rows, P x
theorem Jn.stepA {t s : Nat → G} {ca cb : Nat} (h : Jn t s ca cb) {y : Nat} (hy : y < 4) (ca' : Nat) (hc : ca' = ca ∨ (y = ca ∧ ca' = ca + 1)) : Jn t (upf s 4 (gmerge (s 4) (s y).rows)) ca' cb := by
  obtain ⟨P, p1, p2, p3⟩ := h.a
  have oy := h.ok y (by omega)
  have o4 := h.ok 4 (by decide)
  have ey := h.same y hy
  refine ⟨fun z hz => ?_, fun z hz => ?_, ?_, ?_⟩
  · by_cases e : z = 4
    · subst e; rw [upf_at]; exact o4.gmerge oy.wf oy.rb oy.le
    · rw [upf_ne _ _ _ _ e]; exact h.ok z hz
  · rw [upf_ne _ _ _ _ (by omega)]; exact h.same z hz
  · rw [upf_at]
    refine ⟨_, p1.merge (Rep.self (s y).rows) o4.wf oy.wf, fun x hx => ?_, fun z hz x hx => ?_⟩
    · rcases hx with hx | hx
      · exact p2 x hx
      · exact ⟨y, hy, by rw [← ey]; exact hx⟩
    · rcases hc with rfl | ⟨rfl, rfl⟩
      · exact .inl (p3 z hz x hx)
      · by_cases e : z = y
        · subst e; exact .inr (by rw [ey]; exact hx)
        · exact .inl (p3 z (by omega) x hx)
  · rw [upf_ne _ _ _ _ (by decide)]; exact h.b
theorem Jn.stepB {t s : Nat → G} {ca cb : Nat} (h : Jn t s ca cb) {y : Nat} (hy : y < 4) (cb' : Nat) (hc : y + cb = 3 ∧ cb' = cb + 1) : Jn t (upf s 5 (gmerge (s 5) (s y).rows)) ca cb' := by
  obtain ⟨P, p1, p2, p3⟩ := h.b
  have oy := h.ok y (by omega)
  have o5 := h.ok 5 (by decide)
  have ey := h.same y hy
  obtain ⟨c1, rfl⟩ := hc
  refine ⟨fun z hz => ?_, fun z hz => ?_, ?_, ?_⟩
  · by_cases e : z = 5
    · subst e; rw [upf_at]; exact o5.gmerge oy.wf oy.rb oy.le
    · rw [upf_ne _ _ _ _ e]; exact h.ok z hz
  · rw [upf_ne _ _ _ _ (by omega)]; exact h.same z hz
  · rw [upf_ne _ _ _ _ (by decide)]; exact h.a
  · rw [upf_at]
    refine ⟨_, p1.merge (Rep.self (s y).rows) o5.wf oy.wf, fun x hx => ?_, fun z hz hzc x hx => ?_⟩
    · rcases hx with hx | hx
      · exact p2 x hx
      · exact ⟨y, hy, by rw [← ey]; exact hx⟩
    · by_cases e : z = y
      · subst e; exact .inr (by rw [ey]; exact hx)
      · exact .inl (p3 z hz (by omega) x hx)
theorem Jn.selfB {t s : Nat → G} {ca cb : Nat} (h : Jn t s ca cb) : Jn t (upf s 5 (gmerge (s 5) (s 5).rows)) ca cb := by
  obtain ⟨P, p1, p2, p3⟩ := h.b
  have o5 := h.ok 5 (by decide)
  refine ⟨fun z hz => ?_, fun z hz => ?_, ?_, ?_⟩
  · by_cases e : z = 5
    · subst e; rw [upf_at]; exact o5.gmerge o5.wf o5.rb o5.le
    · rw [upf_ne _ _ _ _ e]; exact h.ok z hz
  · rw [upf_ne _ _ _ _ (by omega)]; exact h.same z hz
  · rw [upf_ne _ _ _ _ (by decide)]; exact h.a
  · rw [upf_at]
    refine ⟨_, p1.merge p1 o5.wf o5.wf, fun x hx => ?_, fun z hz hzc x hx => .inl (p3 z hz hzc x hx)⟩
    rcases hx with hx | hx <;> exact p2 x hx
theorem Jn.eq {t s : Nat → G} (h : Jn t s 4 4) : (s 4).rows = (s 5).rows := by
  obtain ⟨P, p1, p2, p3⟩ := h.a
  obtain ⟨Q, q1, q2, q3⟩ := h.b
  have r1 : Rep (s 4).rows (Uni t 4) := p1.iff (fun x => ⟨p2 x, fun ⟨z, hz, hx⟩ => p3 z hz x hx⟩)
  have r2 : Rep (s 5).rows (Uni t 4) := q1.iff (fun x => ⟨q2 x, fun ⟨z, hz, hx⟩ => q3 z hz (by omega) x hx⟩)
  exact r1.unique r2 (h.ok 4 (by decide)).wf (h.ok 5 (by decide)).wf
theorem Jn.start {t : Nat → G} (h : ∀ z, z < 4 → Ok (t z) 150) : Jn t (upf (upf t 4 (gnew 7)) 5 (gnew 8)) 0 0 := by
  refine ⟨fun z hz => ?_, fun z hz => ?_, ?_, ?_⟩
  · by_cases e : z = 5
    · subst e; rw [upf_at]; exact (Ok.new 8 (by decide) (by decide)).mono (by decide)
    · rw [upf_ne _ _ _ _ e]
      by_cases e : z = 4
      · subst e; rw [upf_at]; exact (Ok.new 7 (by decide) (by decide)).mono (by decide)
      · rw [upf_ne _ _ _ _ e]; exact h z (by omega)
  · rw [upf_ne _ _ _ _ (by omega), upf_ne _ _ _ _ (by omega)]
  · rw [upf_ne _ _ _ _ (by decide), upf_at]
    exact ⟨fun _ => False, ⟨fun x hx => by simp [gnew] at hx, fun _ h => h.elim⟩, fun _ h => h.elim, fun z hz => by omega⟩
  · rw [upf_at]
    exact ⟨fun _ => False, ⟨fun x hx => by simp [gnew] at hx, fun _ h => h.elim⟩, fun _ h => h.elim, fun z hz hz2 => by omega⟩
end Go.Proofs.YtbkhjmdklghbiaaDoor.Nm
