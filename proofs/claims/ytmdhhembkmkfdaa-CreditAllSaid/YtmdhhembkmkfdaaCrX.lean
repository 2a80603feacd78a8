/- The walks of credit.New, of the played pool, and of creditBegun. -/
import Derived.Test.YtmdhhembkmkfdaaCrW
import Derived.Test.YtmdhhembkmkfdaaR
namespace Go.Proofs.Ytmdhhembkmkfdaa.Cr
open Go Go.RowKit Go.Proofs.Ytmdhhembkmkfdaa.K Go.Proofs.Ytmdhhembkmkfdaa.R

set_option maxHeartbeats 2000000 in
set_option maxRecDepth 100000 in
theorem new_any (room lanes : Nat) (w : World) (h1 : 1 ≤ room) (h2 : room ≤ 64) (h3 : 1 ≤ lanes) (h4 : lanes ≤ 8) :
    Calls Try.prog 36 #[.int .i64 (room : Int), .int .i64 (lanes : Int)] w fun e w' => ∃ g l, e = .returned (.tuple #[.pointer (some ⟨g, 0, none⟩), .int .i64 0]) ∧ IsPool w' g l (Pool.new room lanes) ∧ Upd [] w w' ∧ w.heap.size ≤ g ∧ w.heap.size ≤ l := by
  obtain ⟨i0, hi, hz0, hz1, hz2⟩ := info_parts info83
  have q1 : decide ((room : Int) < 1) = false := by simp; omega
  have q2 : decide (64 < (room : Int)) = false := by simp; omega
  have q3 : decide ((lanes : Int) < 1) = false := by simp; omega
  have q4 : decide (8 < (lanes : Int)) = false := by simp; omega
  have hmk : ∀ w, (Instr.makeSlice 79 (.int .i64 (lanes : Int)) (.int .i64 (lanes : Int))).run Try.prog w = .ok (.slice (some ⟨w.heap.size, 0, none⟩) lanes lanes) (w.alloc (.cells (laneCells (List.replicate lanes ⟨0, 0, 0⟩)).toArray 83)) := fun w => by
    have := run_make (P := Try.prog) w 79 83 i0 _ Try.underlying79 hi hz0 .i64 .i64 (lanes : Int) (lanes : Int) (by omega) (by omega) (by rw [hz2]; omega) (by omega)
    rw [this, Int.toNat_natCast, hz1, ← flat_made]; rfl
  clear hi hz0 hz1 hz2
  go_enter Try.func36, Try.ntmps36
  go_wp2_with fail
  go_ret2
  refine ⟨w.heap.size + 1, w.heap.size, rfl, ⟨?_, ?_⟩, ((Upd.refl [] w).alloc _).alloc _, by omega, Nat.le_refl _⟩
  · have h := blk_new (w.alloc (.cells (laneCells (List.replicate lanes ⟨0, 0, 0⟩)).toArray 83)) (.cells #[.int .i64 (room : Int), .int .i64 (room : Int), .int .i64 0, .slice (some ⟨w.heap.size, 0, none⟩) lanes lanes] 81)
    simp only [World.size_alloc] at h
    rw [h]; simp [Pool.new, Pool.n]
  · exact blk_alloc (blk_new w _) _

/-- A pool of which all is given that can be given. -/
structure Good (n room : Nat) (p : Pool) : Prop where
  inv : p.Inv
  tight : p.free = 0 ∨ p.wants = 0
  n : p.n = n
  room : p.room = room

theorem Good.of_shared {n room : Nat} {p : Pool} (h : p.Inv) (hn : p.n = n) (hr : p.room = room) : Good n room p.shared :=
  let s := Inv.shared h
  ⟨s.inv, s.tight, s.n.trans hn, s.room.trans hr⟩

theorem Good.new {room lanes : Nat} (h1 : room ≤ 64) (h2 : 1 ≤ lanes) (h3 : lanes ≤ 8) : Good lanes room (Pool.new room lanes) :=
  ⟨Inv.new h1 h2 h3, .inr (sum_replicate _ _ rfl _), by simp [Pool.n, Pool.new], rfl⟩

theorem wants_use (p : Pool) (i : Nat) (hi : i < p.n) : (p.useOp i).wants = p.wants := by
  have := wants_put p i ⟨(p.lane i).want, (p.lane i).may - 1, (p.lane i).used + 1⟩ hi
  unfold Pool.useOp
  simp only at this; omega

def Turned (g l n room : Nat) (w : World) (e : Ending) (w' : World) : Prop := ∃ c : Int, e = .returned (.int .i64 c) ∧ ∃ q, IsPool w' g l q ∧ Good n room q ∧ Upd [g, l] w w'

theorem want_good (g l n room : Nat) (p : Pool) (i : Nat) (k : Int) (w : World) (h : IsPool w g l p) (hp : Good n room p) (hi : i < n) (hk : 1 ≤ k) (hk2 : k ≤ 64) :
    Calls Try.prog 37 #[.pointer (some ⟨g, 0, none⟩), .int .i64 (i : Int), .int .i64 k] w (Turned g l n room w) := by
  have hi' : i < p.n := by rw [hp.n]; exact hi
  by_cases hm : ((p.lane i).want : Int) + k ≤ 64
  · refine (want_yes g l p i k w h hp.inv hi' hk hm).mono ?_
    rintro e w' ⟨rfl, hq, hu⟩
    exact ⟨0, rfl, _, hq, Good.of_shared (Inv.wantOp hp.inv hi' (by omega)) (by rw [← hp.n]; simp [Pool.wantOp]) hp.room, hu⟩
  · refine (want_no g l p i k w h hp.inv hi' hk hk2 (by omega)).mono ?_
    rintro e w' ⟨rfl, rfl⟩
    exact ⟨6, rfl, p, h, hp, Upd.refl _ _⟩

theorem use_good (g l n room : Nat) (p : Pool) (i : Nat) (w : World) (h : IsPool w g l p) (hp : Good n room p) (hi : i < n) :
    Calls Try.prog 38 #[.pointer (some ⟨g, 0, none⟩), .int .i64 (i : Int)] w (Turned g l n room w) := by
  have hi' : i < p.n := by rw [hp.n]; exact hi
  by_cases hm : 0 < (p.lane i).may
  · refine (use_yes g l p i w h hp.inv hi' hm).mono ?_
    rintro e w' ⟨rfl, hq, hu⟩
    exact ⟨0, rfl, _, hq, ⟨Inv.useOp hp.inv hi' hm, by rw [wants_use p i hi']; exact hp.tight, by rw [← hp.n]; simp [Pool.useOp], hp.room⟩, hu⟩
  · refine (use_no g l p i w h hi' (by omega)).mono ?_
    rintro e w' ⟨rfl, rfl⟩
    exact ⟨9, rfl, p, h, hp, Upd.refl _ _⟩

theorem free_good (g l n room : Nat) (p : Pool) (i : Nat) (w : World) (h : IsPool w g l p) (hp : Good n room p) (hi : i < n) :
    Calls Try.prog 39 #[.pointer (some ⟨g, 0, none⟩), .int .i64 (i : Int)] w (Turned g l n room w) := by
  have hi' : i < p.n := by rw [hp.n]; exact hi
  by_cases hm : 0 < (p.lane i).used
  · refine (free_yes g l p i w h hp.inv hi' hm).mono ?_
    rintro e w' ⟨rfl, hq, hu⟩
    exact ⟨0, rfl, _, hq, Good.of_shared (Inv.freeOp hp.inv hi' hm) (by rw [← hp.n]; simp [Pool.freeOp, Pool.n, Pool.put]) hp.room, hu⟩
  · refine (free_no g l p i w h hi' (by omega)).mono ?_
    rintro e w' ⟨rfl, rfl⟩
    exact ⟨8, rfl, p, h, hp, Upd.refl _ _⟩

theorem drop_good (g l n room : Nat) (p : Pool) (i : Nat) (w : World) (h : IsPool w g l p) (hp : Good n room p) (hi : i < n) :
    Calls Try.prog 43 #[.pointer (some ⟨g, 0, none⟩), .int .i64 (i : Int)] w (Turned g l n room w) := by
  have hi' : i < p.n := by rw [hp.n]; exact hi
  refine (drop_any g l p i w h hp.inv hi').mono ?_
  rintro e w' ⟨rfl, hq, hu⟩
  exact ⟨0, rfl, _, hq, Good.of_shared (Inv.dropOp hp.inv hi') (by rw [← hp.n]; simp [Pool.dropOp, Pool.n, Pool.put]) hp.room, hu⟩

set_option maxHeartbeats 4000000 in
set_option maxRecDepth 100000 in
theorem pool_any (room lanes : Nat) (a : Option Addr) (len cap : Nat) (xs : List Int) (w : World) (hx : IntRow w a xs) (hl : xs.length = len) (hlc : len ≤ cap) (hc : cap ≤ 9223372036854775807)
    (h1 : 1 ≤ room) (h2 : room ≤ 64) (h3 : 1 ≤ lanes) (h4 : lanes ≤ 8) :
    Calls Try.prog 41 #[.int .i64 (room : Int), .int .i64 (lanes : Int), .slice a len cap] w fun e w' =>
      ∃ g l p, e = .returned (.tuple #[.pointer (some ⟨g, 0, none⟩), .bool true]) ∧ IsPool w' g l p ∧ Good lanes room p ∧ Upd [] w w' ∧ w.heap.size ≤ g ∧ w.heap.size ≤ l := by
  have HX := hid hx
  have HL := hid hl
  clear hx hl
  obtain ⟨n, hn⟩ : ∃ n : Nat, min (len : Int) 200 = (n : Int) := ⟨min len 200, by omega⟩
  have hmin := fun ats ty => min_nat ats ty .i64 .i64 (len : Int) 200 n hn
  have hn1 : n ≤ len := by omega
  have hn2 : n ≤ 200 := by omega
  clear hn
  go_enter Try.func41, Try.ntmps41
  go_wp2_with (first | (go_at_call 36; refine (new_any room lanes _ h1 h2 h3 h4).mono ?_; rintro e w1 ⟨g, l, rfl, hq, hu, hg, hl⟩; have HQ := hid hq; have HU := hid hu; clear hq hu))
  go_loopg [31] n (fun d v31 wr => ∃ (j : Nat) (p : Pool), v31 = .int .i64 (j : Int) ∧ Hid (j + d = n) ∧ Hid (IsPool wr g l p) ∧ Hid (Good lanes room p) ∧ Hid (Upd [] w wr))
  case atStart => exact ⟨0, Pool.new room lanes, rfl, by show _ = _; omega, HQ, Good.new h2 h3 h4, HU⟩
  case round =>
    obtain ⟨j, p, rfl, Hj, Hp, Hgd, Hu⟩ := hrel
    by_cases hj : j < n
    · obtain ⟨x, rfl, hc⟩ := HX.out.upd Hu.out j (by rw [HL.out]; omega)
      obtain ⟨k, hk⟩ : ∃ k, k = xs.getD j 0 := ⟨_, rfl⟩
      rw [← hk] at hc
      clear hk
      go_wp2_with fail
      refine (rest_some _ _ _ (by omega) (by omega)).mono ?_
      rintro e w' ⟨i, hi_, -, rfl, rfl⟩
      have hi : i < lanes := by omega
      go_wp2_with fail
      refine (rest_some _ _ _ (by omega) (by omega)).mono ?_
      rintro e w' ⟨r, hr_, -, rfl, rfl⟩
      have hr : r = 0 ∨ r = 1 ∨ r = 2 ∨ r = 3 := by omega
      rcases hr with rfl | rfl | rfl | rfl
      · go_wp2_with fail
        refine (rest_some _ _ _ (by omega) (by omega)).mono ?_
        rintro e w' ⟨z, hz_, -, rfl, rfl⟩
        have hz : z < 5 := by omega
        go_wp2_with fail
        refine (want_good g l lanes room p _ _ _ Hp.out Hgd.out hi (by omega) (by omega)).mono ?_
        rintro e w' ⟨c, rfl, q, hq, hgd, hu⟩
        have HQ' := hid hq
        have HG' := hid hgd
        have HU' := hid hu
        clear hq hgd hu
        go_wp2_with fail
        go_roundg (n - (j + 1))
        case measure => have := Hj.out; omega
        case rel => exact ⟨j + 1, q, by go_num, by show _ = _; omega, HQ'.out, HG'.out, Hu.out.trans HU'.out (fun t ht => .inr (by simp at ht; omega))⟩
      · go_wp2_with fail
        refine (use_good g l lanes room p _ _ Hp.out Hgd.out hi).mono ?_
        rintro e w' ⟨c, rfl, q, hq, hgd, hu⟩
        have HQ' := hid hq
        have HG' := hid hgd
        have HU' := hid hu
        clear hq hgd hu
        go_wp2_with fail
        go_roundg (n - (j + 1))
        case measure => have := Hj.out; omega
        case rel => exact ⟨j + 1, q, by go_num, by show _ = _; omega, HQ'.out, HG'.out, Hu.out.trans HU'.out (fun t ht => .inr (by simp at ht; omega))⟩
      · go_wp2_with fail
        refine (free_good g l lanes room p _ _ Hp.out Hgd.out hi).mono ?_
        rintro e w' ⟨c, rfl, q, hq, hgd, hu⟩
        have HQ' := hid hq
        have HG' := hid hgd
        have HU' := hid hu
        clear hq hgd hu
        go_wp2_with fail
        go_roundg (n - (j + 1))
        case measure => have := Hj.out; omega
        case rel => exact ⟨j + 1, q, by go_num, by show _ = _; omega, HQ'.out, HG'.out, Hu.out.trans HU'.out (fun t ht => .inr (by simp at ht; omega))⟩
      · go_wp2_with fail
        refine (rest_some _ _ _ (by omega) (by omega)).mono ?_
        rintro e w' ⟨z, hz_, -, rfl, rfl⟩
        have hz : z < 5 := by omega
        by_cases hz1 : z = 0
        · subst hz1
          go_wp2_with fail
          refine (drop_good g l lanes room p _ _ Hp.out Hgd.out hi).mono ?_
          rintro e w' ⟨c, rfl, q, hq, hgd, hu⟩
          have HQ' := hid hq
          have HG' := hid hgd
          have HU' := hid hu
          clear hq hgd hu
          go_wp2_with fail
          go_roundg (n - (j + 1))
          case measure => have := Hj.out; omega
          case rel => exact ⟨j + 1, q, by go_num, by show _ = _; omega, HQ'.out, HG'.out, Hu.out.trans HU'.out (fun t ht => .inr (by simp at ht; omega))⟩
        · have hz2 : ((z : Int) == 0) = false := by rw [beq_eq_false_iff_ne]; omega
          go_wp2_with fail
          go_roundg (n - (j + 1))
          case measure => have := Hj.out; omega
          case rel => exact ⟨j + 1, p, by go_num, by show _ = _; omega, Hp.out, Hgd.out, Hu.out⟩
    · go_wp2_with fail
      go_ret2
      exact ⟨g, l, p, rfl, Hp.out, Hgd.out, Hu.out, hg, hl⟩
end Go.Proofs.Ytmdhhembkmkfdaa.Cr
