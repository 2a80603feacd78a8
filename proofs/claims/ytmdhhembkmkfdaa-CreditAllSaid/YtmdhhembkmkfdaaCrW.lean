/- The walks of package credit's functions: each does to the pool in memory what the plain operation does. -/
import Derived.Test.YtmdhhembkmkfdaaProg
import Derived.Test.YtmdhhembkmkfdaaK
import Derived.Test.YtmdhhembkmkfdaaCrP
import Derived.BigQuiet
import Derived.Deep.QuietTactic
import Derived.Deep.LoopGhost
import Derived.OwnWalk
import Derived.BigRegion
import Derived.IntWalk
namespace Go.Proofs.Ytmdhhembkmkfdaa.Cr
open Go Go.RowKit Go.Proofs.Ytmdhhembkmkfdaa.K

def laneCells : List Lane → List Value
  | [] => []
  | x :: l => .int .i64 (x.want : Int) :: .int .i64 (x.may : Int) :: .int .i64 (x.used : Int) :: laneCells l

theorem laneCells_get : ∀ (ls : List Lane) (i : Nat), i < ls.length →
    (laneCells ls)[i * 3]? = some (.int .i64 ((ls.getD i Lane.none).want : Int)) ∧ (laneCells ls)[i * 3 + 1]? = some (.int .i64 ((ls.getD i Lane.none).may : Int)) ∧ (laneCells ls)[i * 3 + 2]? = some (.int .i64 ((ls.getD i Lane.none).used : Int))
  | [], i, h => by simp at h
  | x :: l, 0, h => by simp [laneCells]
  | x :: l, i + 1, h => by
    have := laneCells_get l i (by simpa using h)
    rw [show (i + 1) * 3 = i * 3 + 1 + 1 + 1 by omega]
    simpa [laneCells] using this

theorem laneCells_length : ∀ (ls : List Lane), (laneCells ls).length = ls.length * 3
  | [] => rfl
  | x :: l => by have := laneCells_length l; simp [laneCells]; omega

theorem laneCells_set : ∀ (ls : List Lane) (i : Nat) (a : Nat), i < ls.length →
    (laneCells ls).set (i * 3) (.int .i64 (a : Int)) = laneCells (ls.set i ⟨a, (ls.getD i Lane.none).may, (ls.getD i Lane.none).used⟩) ∧
    (laneCells ls).set (i * 3 + 1) (.int .i64 (a : Int)) = laneCells (ls.set i ⟨(ls.getD i Lane.none).want, a, (ls.getD i Lane.none).used⟩) ∧
    (laneCells ls).set (i * 3 + 2) (.int .i64 (a : Int)) = laneCells (ls.set i ⟨(ls.getD i Lane.none).want, (ls.getD i Lane.none).may, a⟩)
  | [], i, a, h => by simp at h
  | x :: l, 0, a, h => by simp [laneCells]
  | x :: l, i + 1, a, h => by
    have := laneCells_set l i a (by simpa using h)
    rw [show (i + 1) * 3 = i * 3 + 1 + 1 + 1 by omega]
    simpa [laneCells] using this

/-- In world w the pool p lies behind the pointer to block g, its lanes in block l. -/
def IsPool (w : World) (g l : Nat) (p : Pool) : Prop :=
  w.heap[g]? = some (.cells #[.int .i64 (p.room : Int), .int .i64 (p.free : Int), .int .i64 (p.next : Int), .slice (some ⟨l, 0, none⟩) p.n p.n] 81 (0, 0)) ∧
  w.heap[l]? = some (.cells (laneCells p.lanes).toArray 83 (0, 0))

section
variable {w : World} {g l : Nat} {p : Pool}
theorem IsPool.ne (h : IsPool w g l p) : g ≠ l := blk_ne h.1 h.2 (by decide)
theorem IsPool.c1 (h : IsPool w g l p) : w.cell? ⟨g, 1, none⟩ = some (.int .i64 (p.free : Int)) := (blk_cell h.1 1).trans rfl
theorem IsPool.c2 (h : IsPool w g l p) : w.cell? ⟨g, 2, none⟩ = some (.int .i64 (p.next : Int)) := (blk_cell h.1 2).trans rfl
theorem IsPool.c3 (h : IsPool w g l p) : w.cell? ⟨g, 3, none⟩ = some (.slice (some ⟨l, 0, none⟩) p.n p.n) := (blk_cell h.1 3).trans rfl
theorem IsPool.fg (h : IsPool w g l p) (i : Nat) : w.frozen? ⟨g, i, none⟩ = false := blk_frozen h.1 i
theorem IsPool.fl (h : IsPool w g l p) (i : Nat) : w.frozen? ⟨l, i, none⟩ = false := blk_frozen h.2 i
theorem IsPool.want (h : IsPool w g l p) {i : Nat} (hi : i < p.n) : w.cell? ⟨l, i * 3, none⟩ = some (.int .i64 ((p.lane i).want : Int)) := by
  rw [blk_cell h.2, List.getElem?_toArray]; exact (laneCells_get p.lanes i hi).1
theorem IsPool.may (h : IsPool w g l p) {i : Nat} (hi : i < p.n) : w.cell? ⟨l, i * 3 + 1, none⟩ = some (.int .i64 ((p.lane i).may : Int)) := by
  rw [blk_cell h.2, List.getElem?_toArray]; exact (laneCells_get p.lanes i hi).2.1
theorem IsPool.used (h : IsPool w g l p) {i : Nat} (hi : i < p.n) : w.cell? ⟨l, i * 3 + 2, none⟩ = some (.int .i64 ((p.lane i).used : Int)) := by
  rw [blk_cell h.2, List.getElem?_toArray]; exact (laneCells_get p.lanes i hi).2.2
theorem IsPool.drewN (h : IsPool w g l p) (m : Nat) : IsPool (w.drewN m) g l p := h
theorem IsPool.set_free (h : IsPool w g l p) {v : Value} (a : Nat) (hv : v = .int .i64 (a : Int)) : IsPool (w.setCell ⟨g, 1, none⟩ v) g l { p with free := a } := by
  subst hv; exact ⟨(blk_set h.1 1 _).trans rfl, blk_far h.2 (fun e => h.ne e.symm) _⟩
theorem IsPool.set_next (h : IsPool w g l p) {v : Value} (a : Nat) (hv : v = .int .i64 (a : Int)) : IsPool (w.setCell ⟨g, 2, none⟩ v) g l { p with next := a } := by
  subst hv; exact ⟨(blk_set h.1 2 _).trans rfl, blk_far h.2 (fun e => h.ne e.symm) _⟩
theorem n_lanes (p : Pool) (i : Nat) (x : Lane) : (p.lanes.set i x).length = p.lanes.length := by simp
theorem IsPool.set_lane (h : IsPool w g l p) {i k : Nat} {v : Value} {x : Lane} (hs : (laneCells p.lanes).set k v = laneCells (p.lanes.set i x)) : IsPool (w.setCell ⟨l, k, none⟩ v) g l (p.put i x) := by
  refine ⟨?_, ?_⟩
  · have := blk_far h.1 (p := ⟨l, k, none⟩) h.ne v
    rw [n_put]; exact this
  · rw [blk_set h.2 k v, List.setIfInBounds_toArray, hs]; rfl
theorem IsPool.set_want (h : IsPool w g l p) {i : Nat} (hi : i < p.n) {v : Value} (a : Nat) (hv : v = .int .i64 (a : Int)) : IsPool (w.setCell ⟨l, i * 3, none⟩ v) g l (p.put i ⟨a, (p.lane i).may, (p.lane i).used⟩) := by
  subst hv; exact h.set_lane (laneCells_set p.lanes i a hi).1
theorem IsPool.set_may (h : IsPool w g l p) {i : Nat} (hi : i < p.n) {v : Value} (a : Nat) (hv : v = .int .i64 (a : Int)) : IsPool (w.setCell ⟨l, i * 3 + 1, none⟩ v) g l (p.put i ⟨(p.lane i).want, a, (p.lane i).used⟩) := by
  subst hv; exact h.set_lane (laneCells_set p.lanes i a hi).2.1
theorem IsPool.set_used (h : IsPool w g l p) {i : Nat} (hi : i < p.n) {v : Value} (a : Nat) (hv : v = .int .i64 (a : Int)) : IsPool (w.setCell ⟨l, i * 3 + 2, none⟩ v) g l (p.put i ⟨(p.lane i).want, (p.lane i).may, a⟩) := by
  subst hv; exact h.set_lane (laneCells_set p.lanes i a hi).2.2
theorem IsPool.upd {S : List Nat} {w' : World} (h : IsPool w g l p) (u : Upd S w w') (hg : g ∉ S) (hl : l ∉ S) : IsPool w' g l p := ⟨u.blk h.1 hg, u.blk h.2 hl⟩
end

theorem put_put (p : Pool) (i : Nat) (x y : Lane) : (p.put i x).put i y = p.put i y := by simp [Pool.put]
theorem lane_put_same (p : Pool) (i : Nat) (x : Lane) (hi : i < p.n) : (p.put i x).lane i = x := by rw [lane_put p i x hi, if_pos rfl]

set_option maxHeartbeats 1000000 in
theorem is_any (g l : Nat) (p : Pool) (i : Nat) (w : World) (h : IsPool w g l p) (hi : i < p.n) :
    Calls Try.prog 59 #[.pointer (some ⟨g, 0, none⟩), .int .i64 (i : Int)] w fun e w' => e = .returned (.bool true) ∧ w = w' := by
  have c3 := h.c3
  have hi' : (i : Int) < (p.n : Int) := by omega
  clear h hi
  go_enter Try.func59, Try.ntmps59
  go_wp2
  go_ret
  exact ⟨rfl, rfl⟩

set_option maxHeartbeats 1000000 in
theorem use_yes (g l : Nat) (p : Pool) (i : Nat) (w : World) (h : IsPool w g l p) (hp : p.Inv) (hi : i < p.n) (hm : 0 < (p.lane i).may) :
    Calls Try.prog 38 #[.pointer (some ⟨g, 0, none⟩), .int .i64 (i : Int)] w fun e w' => e = .returned (.int .i64 0) ∧ IsPool w' g l (p.useOp i) ∧ Upd [g, l] w w' := by
  have c3 := h.c3
  have ci := h.may hi
  have cu := h.used hi
  have f1 := h.fl (i * 3 + 1)
  have f2 := h.fl (i * 3 + 2)
  have hne := h.ne
  have hi' : (i : Int) < (p.n : Int) := by omega
  have hm0 : (((p.lane i).may : Int) == 0) = false := by rw [beq_eq_false_iff_ne]; omega
  have b1 := may_le p i; have b2 := used_le p i; have b3 := hp.sum; have b4 := hp.r64
  have b5 : (p.lane i).may ≤ 64 := by omega
  have b6 : (p.lane i).used ≤ 64 := by omega
  clear b1 b2 b3 b4
  have H := hid h
  clear h
  go_enter Try.func38, Try.ntmps38
  go_wp2_with (first | (go_at_call 59; refine (is_any g l p i _ H.out hi).mono ?_; rintro e w' ⟨rfl, rfl⟩))
  go_ret
  refine ⟨rfl, ?_, ?_⟩
  · have h1 := (H.out.set_may hi (v := .int .i64 (((p.lane i).may : Int) - 1)) ((p.lane i).may - 1) (by congr 1; omega))
    have h2 := h1.set_used (i := i) (by simpa using hi) (v := .int .i64 (((p.lane i).used : Int) + 1)) ((p.lane i).used + 1) (by congr 1)
    rw [lane_put_same p i _ hi, put_put] at h2
    exact h2
  · exact ((Upd.refl _ _).setCell (by simp) _).setCell (by simp) _

set_option maxHeartbeats 1000000 in
theorem use_no (g l : Nat) (p : Pool) (i : Nat) (w : World) (h : IsPool w g l p) (hi : i < p.n) (hm : (p.lane i).may = 0) :
    Calls Try.prog 38 #[.pointer (some ⟨g, 0, none⟩), .int .i64 (i : Int)] w fun e w' => e = .returned (.int .i64 9) ∧ w = w' := by
  have c3 := h.c3
  have ci := h.may hi
  rw [hm] at ci
  have hi' : (i : Int) < (p.n : Int) := by omega
  have H := hid h
  clear h hm
  go_enter Try.func38, Try.ntmps38
  go_wp2_with (first | (go_at_call 59; refine (is_any g l p i _ H.out hi).mono ?_; rintro e w' ⟨rfl, rfl⟩))
  go_ret
  exact ⟨rfl, rfl⟩

theorem pick_hit (p : Pool) (d j : Nat) (h : 0 < (p.lane ((p.next + j) % p.n)).want) : p.pick (d + 1) j = some ((p.next + j) % p.n) := by
  unfold Pool.pick; rw [if_pos h]
theorem pick_miss (p : Pool) (d j : Nat) (h : ¬ 0 < (p.lane ((p.next + j) % p.n)).want) : p.pick (d + 1) j = p.pick d (j + 1) := by
  conv => lhs; unfold Pool.pick
  rw [if_neg h]
theorem share_some (p : Pool) (k : Nat) (hf : 0 < p.free) (h : p.pick p.n 0 = some k) : p.shared = (p.grant k).shared := by
  unfold Pool.shared
  obtain ⟨f, hf'⟩ : ∃ f, p.free = f + 1 := ⟨p.free - 1, by omega⟩
  have e : (p.grant k).free = f := by show p.free - 1 = f; omega
  rw [e, hf']
  conv => lhs; unfold Pool.share
  rw [h]
theorem share_none (p : Pool) (h : p.pick p.n 0 = none) : p.shared = p := by
  unfold Pool.shared
  cases hf : p.free with
  | zero => rfl
  | succ f => unfold Pool.share; rw [h]
theorem share_zero (p : Pool) (h : p.free = 0) : p.shared = p := by unfold Pool.shared; rw [h]; rfl

theorem grant_eq (q : Pool) (k : Nat) (hk : k < q.n) :
    ({ ({ ((q.put k ⟨(q.lane k).want - 1, (q.lane k).may, (q.lane k).used⟩).put k ⟨((q.put k ⟨(q.lane k).want - 1, (q.lane k).may, (q.lane k).used⟩).lane k).want, (q.lane k).may + 1, ((q.put k ⟨(q.lane k).want - 1, (q.lane k).may, (q.lane k).used⟩).lane k).used⟩) with free := q.free - 1 } : Pool) with next := (k + 1) % q.n } : Pool) = q.grant k := by
  rw [lane_put_same q k _ hk, put_put]; rfl

set_option maxHeartbeats 4000000 in
set_option maxRecDepth 100000 in
theorem share_any (g l : Nat) (p : Pool) (w : World) (h : IsPool w g l p) (hp : p.Inv) :
    Calls Try.prog 60 #[.pointer (some ⟨g, 0, none⟩)] w fun e w' => e = .returned (.tuple #[]) ∧ IsPool w' g l p.shared ∧ Upd [g, l] w w' := by
  have H := hid h
  have hne := h.ne
  have HP := hid hp
  clear h hp
  go_enter Try.func60, Try.ntmps60
  go_wp2
  go_loopg [2] p.free (fun f v2 wr => ∃ q : Pool, Hid (q.free = f) ∧ Hid (q.shared = p.shared) ∧ Hid q.Inv ∧ Hid (IsPool wr g l q) ∧ Hid (Upd [g, l] w wr))
  case atStart => exact ⟨p, rfl, rfl, HP, H, Upd.refl _ _⟩
  case round =>
    obtain ⟨q, Hf, Hs, Hi, Hq, Hu⟩ := hrel
    clear H HP
    have c1 := Hq.out.c1
    by_cases hf : 0 < q.free
    · have c2 := Hq.out.c2
      have c3 := Hq.out.c3
      have bn := Hi.out.n8
      have bx := Hi.out.nx
      have bn1 := Hi.out.n1
      go_wp2
      go_loopg [2, 15] q.n (fun d v2 v15 w2 => ∃ j : Nat, v2 = .int .i64 (-1) ∧ v15 = .int .i64 (j : Int) ∧ Hid (j + d = q.n) ∧ Hid (q.pick q.n 0 = q.pick d j) ∧ Hid (∃ m, w2 = wr.drewN m))
      case atStart => exact ⟨0, rfl, rfl, by show _ = _; omega, rfl, ⟨0, rfl⟩⟩
      case round =>
        obtain ⟨j, rfl, rfl, Hj, Hk, Hw⟩ := hrel
        obtain ⟨m, rfl⟩ := Hw.out
        by_cases hj : j < q.n
        · have hi : (q.next + j) % q.n < q.n := Nat.mod_lt _ (by omega)
          have hx0 : 0 ≤ ((q.next : Int) + (j : Int)) % (q.n : Int) := Int.emod_nonneg _ (by omega)
          have hx1 : ((q.next : Int) + (j : Int)) % (q.n : Int) < (q.n : Int) := Int.emod_lt_of_pos _ (by omega)
          have ci := Hq.out.want hi
          have cm := Hq.out.may hi
          have fw := Hq.out.fl ((q.next + j) % q.n * 3)
          have fm := Hq.out.fl ((q.next + j) % q.n * 3 + 1)
          have f1 := Hq.out.fg 1
          have f2 := Hq.out.fg 2
          have b1 := may_le q ((q.next + j) % q.n)
          have b2 := Hi.out.sum
          have b3 := Hi.out.r64
          have b4 := Hi.out.w64 ((q.next + j) % q.n)
          have b5 : (q.lane ((q.next + j) % q.n)).may ≤ 64 := by omega
          have b6 : q.free ≤ 64 := by omega
          clear b1 b2 b3
          by_cases hw : 0 < (q.lane ((q.next + j) % q.n)).want
          · go_wp2
            go_quiet (fail)
            go_wp2
            have hd : ∃ d', gk = d' + 1 := ⟨gk - 1, by have := Hj.out; omega⟩
            obtain ⟨d', rfl⟩ := hd
            have hpick := Hk.out.trans (pick_hit q d' j hw)
            go_roundg (q.grant ((q.next + j) % q.n)).free
            case measure => have := Hf.out; show q.free - 1 < _; omega
            case rel =>
              refine ⟨_, rfl, (share_some q _ hf hpick).symm.trans Hs.out, Inv.grant Hi.out hi hf, ?_, ?_⟩
              · rw [← grant_eq q _ hi]
                refine IsPool.set_next (IsPool.set_free (IsPool.set_may (IsPool.set_want (Hq.out.drewN _) hi _ ?_) (by simpa using hi) _ ?_) _ ?_) _ ?_
                · congr 1; omega
                · congr 1
                · congr 1; omega
                · congr 1; rw [Nat.mod_add_mod]; push_cast; rfl
              · exact ((((Hu.out.drewN _).setCell (by simp) _).setCell (by simp) _).setCell (by simp) _).setCell (by simp) _
          · have hw0 : ¬ (0 < ((q.lane ((q.next + j) % q.n)).want : Int)) := by omega
            go_wp2
            go_quiet (fail)
            go_wp2
            have hd : ∃ d', gk = d' + 1 := ⟨gk - 1, by have := Hj.out; omega⟩
            obtain ⟨d', rfl⟩ := hd
            go_roundg d'
            case measure => omega
            case rel => exact ⟨j + 1, rfl, by go_num, by have := Hj.out; show _ = _; omega, Hk.out.trans (pick_miss q d' j hw), ⟨_, rfl⟩⟩
        · go_wp2
          have hd : gk = 0 := by have := Hj.out; omega
          subst hd
          have hpick : q.pick q.n 0 = none := Hk.out.trans rfl
          go_returns
          exact ⟨rfl, by rw [← Hs.out, share_none q hpick]; exact Hq.out.drewN _, Hu.out.drewN _⟩
    · have hf0 : ¬ (0 < (q.free : Int)) := by omega
      go_wp2
      go_returns
      exact ⟨rfl, by rw [← Hs.out, share_zero q (by omega)]; exact Hq.out, Hu.out⟩
theorem useds_le (p : Pool) (h : p.Inv) (i : Nat) : (p.lane i).used ≤ 64 := by have := used_le p i; have := h.sum; have := h.r64; omega
theorem mays_le (p : Pool) (h : p.Inv) (i : Nat) : (p.lane i).may ≤ 64 := by have := may_le p i; have := h.sum; have := h.r64; omega
theorem free_le (p : Pool) (h : p.Inv) : p.free ≤ 64 := by have := h.sum; have := h.r64; omega

set_option maxHeartbeats 1000000 in
theorem want_yes (g l : Nat) (p : Pool) (i : Nat) (k : Int) (w : World) (h : IsPool w g l p) (hp : p.Inv) (hi : i < p.n) (hk : 1 ≤ k) (hm : ((p.lane i).want : Int) + k ≤ 64) :
    Calls Try.prog 37 #[.pointer (some ⟨g, 0, none⟩), .int .i64 (i : Int), .int .i64 k] w fun e w' => e = .returned (.int .i64 0) ∧ IsPool w' g l (p.wantOp i k.toNat).shared ∧ Upd [g, l] w w' := by
  have c3 := h.c3
  have ci := h.want hi
  have f1 := h.fl (i * 3)
  have hne := h.ne
  have hi' : (i : Int) < (p.n : Int) := by omega
  have b1 := hp.w64 i
  have H := hid h
  clear h
  have t1 : decide (k < 1) = false := by simp; omega
  have t2 : decide (64 < k) = false := by simp; omega
  go_enter Try.func37, Try.ntmps37
  go_wp2_with (first | (go_at_call 59; refine (is_any g l p i _ H.out hi).mono ?_; rintro e w' ⟨rfl, rfl⟩))
  have h1 : IsPool (w.setCell ⟨l, i * 3, none⟩ (.int .i64 (((p.lane i).want : Int) + k))) g l (p.wantOp i k.toNat) := H.out.set_want hi ((p.lane i).want + k.toNat) (by congr 1; omega)
  refine (share_any g l _ _ h1 (Inv.wantOp hp hi (by omega))).mono ?_
  rintro e w' ⟨rfl, hq, hu⟩
  have HQ := hid hq
  clear hq
  go_wp2_with fail
  go_ret
  exact ⟨rfl, HQ.out, (((Upd.refl [g, l] w).setCell (p := ⟨l, i * 3, none⟩) (by simp) _)).trans hu (fun t ht => .inl ht)⟩

set_option maxHeartbeats 1000000 in
theorem want_no (g l : Nat) (p : Pool) (i : Nat) (k : Int) (w : World) (h : IsPool w g l p) (hp : p.Inv) (hi : i < p.n) (hk : 1 ≤ k) (hk2 : k ≤ 64) (hm : 64 < ((p.lane i).want : Int) + k) :
    Calls Try.prog 37 #[.pointer (some ⟨g, 0, none⟩), .int .i64 (i : Int), .int .i64 k] w fun e w' => e = .returned (.int .i64 6) ∧ w = w' := by
  have c3 := h.c3
  have ci := h.want hi
  have hi' : (i : Int) < (p.n : Int) := by omega
  have b1 := hp.w64 i
  have H := hid h
  clear h
  have t1 : decide (k < 1) = false := by simp; omega
  have t2 : decide (64 < k) = false := by simp; omega
  go_enter Try.func37, Try.ntmps37
  go_wp2_with (first | (go_at_call 59; refine (is_any g l p i _ H.out hi).mono ?_; rintro e w' ⟨rfl, rfl⟩))
  go_ret
  exact ⟨rfl, rfl⟩

set_option maxHeartbeats 1000000 in
theorem free_no (g l : Nat) (p : Pool) (i : Nat) (w : World) (h : IsPool w g l p) (hi : i < p.n) (hm : (p.lane i).used = 0) :
    Calls Try.prog 39 #[.pointer (some ⟨g, 0, none⟩), .int .i64 (i : Int)] w fun e w' => e = .returned (.int .i64 8) ∧ w = w' := by
  have c3 := h.c3
  have ci := h.used hi
  rw [hm] at ci
  have hi' : (i : Int) < (p.n : Int) := by omega
  have H := hid h
  clear h hm
  go_enter Try.func39, Try.ntmps39
  go_wp2_with (first | (go_at_call 59; refine (is_any g l p i _ H.out hi).mono ?_; rintro e w' ⟨rfl, rfl⟩))
  go_ret
  exact ⟨rfl, rfl⟩

set_option maxHeartbeats 1000000 in
theorem free_yes (g l : Nat) (p : Pool) (i : Nat) (w : World) (h : IsPool w g l p) (hp : p.Inv) (hi : i < p.n) (hm : 0 < (p.lane i).used) :
    Calls Try.prog 39 #[.pointer (some ⟨g, 0, none⟩), .int .i64 (i : Int)] w fun e w' => e = .returned (.int .i64 0) ∧ IsPool w' g l (p.freeOp i).shared ∧ Upd [g, l] w w' := by
  have c3 := h.c3
  have c1 := h.c1
  have ci := h.used hi
  have f1 := h.fl (i * 3 + 2)
  have f2 := h.fg 1
  have hne := h.ne
  have hi' : (i : Int) < (p.n : Int) := by omega
  have b1 := useds_le p hp i
  have b2 := free_le p hp
  have hm0 : (((p.lane i).used : Int) == 0) = false := by rw [beq_eq_false_iff_ne]; omega
  have H := hid h
  clear h
  go_enter Try.func39, Try.ntmps39
  go_wp2_with (first | (go_at_call 59; refine (is_any g l p i _ H.out hi).mono ?_; rintro e w' ⟨rfl, rfl⟩))
  have h1 : IsPool ((w.setCell ⟨l, i * 3 + 2, none⟩ (.int .i64 (((p.lane i).used : Int) - 1))).setCell ⟨g, 1, none⟩ (.int .i64 ((p.free : Int) + 1))) g l (p.freeOp i) :=
    IsPool.set_free (H.out.set_used hi ((p.lane i).used - 1) (by congr 1; omega)) (p.free + 1) (by congr 1)
  refine (share_any g l _ _ h1 (Inv.freeOp hp hi hm)).mono ?_
  rintro e w' ⟨rfl, hq, hu⟩
  have HQ := hid hq
  clear hq
  go_wp2_with fail
  go_ret
  exact ⟨rfl, HQ.out, ((((Upd.refl [g, l] w).setCell (p := ⟨l, i * 3 + 2, none⟩) (by simp) _).setCell (p := ⟨g, 1, none⟩) (by simp) _)).trans hu (fun t ht => .inl ht)⟩

set_option maxHeartbeats 1000000 in
theorem left_any (g l : Nat) (p : Pool) (w : World) (h : IsPool w g l p) :
    Calls Try.prog 42 #[.pointer (some ⟨g, 0, none⟩)] w fun e w' => e = .returned (.int .i64 (p.free : Int)) ∧ w = w' := by
  have c1 := h.c1
  clear h
  go_enter Try.func42, Try.ntmps42
  go_wp2
  go_ret
  exact ⟨rfl, rfl⟩

set_option maxHeartbeats 1000000 in
theorem lane_any (g l : Nat) (p : Pool) (i : Nat) (w : World) (h : IsPool w g l p) (hi : i < p.n) :
    Calls Try.prog 40 #[.pointer (some ⟨g, 0, none⟩), .int .i64 (i : Int)] w fun e w' =>
      e = .returned (.tuple #[.int .i64 ((p.lane i).want : Int), .int .i64 ((p.lane i).may : Int), .int .i64 ((p.lane i).used : Int), .int .i64 0]) ∧ Upd [] w w' := by
  have c3 := h.c3
  have d0 := h.want hi
  have d1 := h.may hi
  have d2 := h.used hi
  have hi' : (i : Int) < (p.n : Int) := by omega
  have H := hid h
  clear h
  go_enter Try.func40, Try.ntmps40
  go_wp2_with (first | (go_at_call 59; refine (is_any g l p i _ H.out hi).mono ?_; rintro e w' ⟨rfl, rfl⟩))
  go_quiet (fail)
  go_wp2
  refine bodyPost_ret (v := .tuple #[.int .i64 ((p.lane i).want : Int), .int .i64 ((p.lane i).may : Int), .int .i64 ((p.lane i).used : Int), .int .i64 0]) (by simp [results, Try.results40, go_sem]) rfl ?_
  exact ⟨rfl, ((Upd.refl [] w).alloc _).drewN _⟩

theorem zero_lane (q : Pool) (i : Nat) (hi : i < q.n) : ((q.put i ⟨0, (q.lane i).may, (q.lane i).used⟩).put i ⟨((q.put i ⟨0, (q.lane i).may, (q.lane i).used⟩).lane i).want, 0, ((q.put i ⟨0, (q.lane i).may, (q.lane i).used⟩).lane i).used⟩).put i
    ⟨(((q.put i ⟨0, (q.lane i).may, (q.lane i).used⟩).put i ⟨((q.put i ⟨0, (q.lane i).may, (q.lane i).used⟩).lane i).want, 0, ((q.put i ⟨0, (q.lane i).may, (q.lane i).used⟩).lane i).used⟩).lane i).want,
     (((q.put i ⟨0, (q.lane i).may, (q.lane i).used⟩).put i ⟨((q.put i ⟨0, (q.lane i).may, (q.lane i).used⟩).lane i).want, 0, ((q.put i ⟨0, (q.lane i).may, (q.lane i).used⟩).lane i).used⟩).lane i).may, 0⟩ = q.put i ⟨0, 0, 0⟩ := by
  simp only [lane_put_same q i _ hi, put_put]

set_option maxHeartbeats 2000000 in
theorem drop_any (g l : Nat) (p : Pool) (i : Nat) (w : World) (h : IsPool w g l p) (hp : p.Inv) (hi : i < p.n) :
    Calls Try.prog 43 #[.pointer (some ⟨g, 0, none⟩), .int .i64 (i : Int)] w fun e w' => e = .returned (.int .i64 0) ∧ IsPool w' g l (p.dropOp i).shared ∧ Upd [g, l] w w' := by
  have c3 := h.c3
  have c1 := h.c1
  have d0 := h.want hi
  have d1 := h.may hi
  have d2 := h.used hi
  have e0 := h.fl (i * 3)
  have e1 := h.fl (i * 3 + 1)
  have e2 := h.fl (i * 3 + 2)
  have f2 := h.fg 1
  have hne := h.ne
  have hi' : (i : Int) < (p.n : Int) := by omega
  have b1 := useds_le p hp i
  have b3 := mays_le p hp i
  have b2 := free_le p hp
  have H := hid h
  clear h
  go_enter Try.func43, Try.ntmps43
  go_wp2_with (first | (go_at_call 59; refine (is_any g l p i _ H.out hi).mono ?_; rintro e w' ⟨rfl, rfl⟩))
  go_region
  go_wp2_with fail
  have h1 : IsPool ((((w.setCell ⟨g, 1, none⟩ (.int .i64 ((p.free : Int) + (((p.lane i).may : Int) + ((p.lane i).used : Int))))).setCell ⟨l, i * 3, none⟩ (.int .i64 0)).setCell ⟨l, i * 3 + 1, none⟩ (.int .i64 0)).setCell ⟨l, i * 3 + 2, none⟩ (.int .i64 0)).drew g l (p.dropOp i) := by
    have a1 := H.out.set_free (v := .int .i64 ((p.free : Int) + (((p.lane i).may : Int) + ((p.lane i).used : Int)))) (p.free + ((p.lane i).may + (p.lane i).used)) (by congr 1)
    have a2 := a1.set_want (i := i) hi (v := .int .i64 0) 0 rfl
    have a3 := a2.set_may (i := i) (by rw [n_put]; exact hi) (v := .int .i64 0) 0 rfl
    have a4 := a3.set_used (i := i) (by rw [n_put, n_put]; exact hi) (v := .int .i64 0) 0 rfl
    rw [zero_lane { p with free := p.free + ((p.lane i).may + (p.lane i).used) } i hi] at a4
    exact a4
  refine (share_any g l _ _ h1 (Inv.dropOp hp hi)).mono ?_
  rintro e w' ⟨rfl, hq, hu⟩
  have HQ := hid hq
  clear hq
  go_wp2_with fail
  go_ret
  exact ⟨rfl, HQ.out, ((((((Upd.refl [g, l] w).setCell (p := ⟨g, 1, none⟩) (by simp) _).setCell (p := ⟨l, i * 3, none⟩) (by simp) _).setCell (p := ⟨l, i * 3 + 1, none⟩) (by simp) _).setCell (p := ⟨l, i * 3 + 2, none⟩) (by simp) _).drew).trans hu (fun t ht => .inl ht)⟩

theorem info83 : (Try.prog.info? 83).map (fun i => (i.zero, i.size, i.bytes)) = some (some (.agg #[.int .i64 0, .int .i64 0, .int .i64 0]), 3, 24) := by kernel_rfl

theorem laneCells_zero : ∀ k : Nat, laneCells (List.replicate k ⟨0, 0, 0⟩) = List.replicate (k * 3) (.int .i64 0)
  | 0 => rfl
  | k + 1 => by
    rw [show (k + 1) * 3 = k * 3 + 1 + 1 + 1 by omega, List.replicate_succ, List.replicate_succ, List.replicate_succ, List.replicate_succ, ← laneCells_zero k]; rfl

theorem flat_made (k : Nat) : madeCells #[.int .i64 0, .int .i64 0, .int .i64 0] (k * 3) = (laneCells (List.replicate k ⟨0, 0, 0⟩)).toArray := by
  rw [laneCells_zero]
  apply Array.ext
  · simp [madeCells]
  · intro j h1 h2
    simp only [madeCells, Array.getElem_map, Array.getElem_range, List.getElem_toArray, List.getElem_replicate]
    have h : j % 3 = 0 ∨ j % 3 = 1 ∨ j % 3 = 2 := by omega
    show (#[Value.int .i64 0, .int .i64 0, .int .i64 0] : Array Value)[j % 3]! = _
    rcases h with h | h | h <;> rw [h] <;> rfl

end Go.Proofs.Ytmdhhembkmkfdaa.Cr
