/- The walks of clockBegun and of clock.Ahead. -/
import Derived.Test.YtcdladnbcamgjaaTh
import Derived.Test.YtcdladnbcamgjaaEQ
import Derived.Deep.RegionWith
import Derived.BigRegion
import Derived.BigQuiet
import Derived.Deep.QuietTactic
namespace Go.Proofs.Ytcdladnbcamgjaa.Ah
open Go Go.RowKit Go.Proofs.Ytcdladnbcamgjaa.K Go.Proofs.Ytcdladnbcamgjaa.M Go.Proofs.Ytcdladnbcamgjaa.Ev Go.Proofs.Ytcdladnbcamgjaa.Ck Go.Proofs.Ytcdladnbcamgjaa.O Go.Proofs.Ytcdladnbcamgjaa.CL Go.Proofs.Ytcdladnbcamgjaa.CW Go.Proofs.Ytcdladnbcamgjaa.Th

/-- The clocks' rows, as they are read. -/
def Rows (w : World) (a : Option Addr) (l : List Ev) : Prop := ∀ i, i < l.length → ∃ h g c, a = some ⟨h, 0, none⟩ ∧ w.cell? ⟨h, i, none⟩ = some (.slice (some ⟨g, 0, none⟩) 8 c) ∧ IntRow w (some ⟨g, 0, none⟩) (clockAt l i) ∧ (clockAt l i).length = 8
theorem Rows.upd {w w' : World} {a : Option Addr} {l : List Ev} (h : Rows w a l) (u : Upd [] w w') : Rows w' a l := fun i hi =>
  let ⟨x, g, c, h1, h2, h3, h4⟩ := h i hi; ⟨x, g, c, h1, u.cell h2 (by simp), h3.upd u, h4⟩
theorem clocks_rows (a : Option Addr) (cap : Nat) (l : List Ev) (w : World) (hx : EvRow w a l) (hlc : l.length ≤ cap) (hc : cap ≤ 9223372036854775807) (hn : l.length ≤ 200) (hv : Valid l) :
    Calls Try.prog 24 #[.slice a l.length cap] w fun e w' => ∃ b c, e = .returned (.tuple #[.slice b l.length c, .int .i64 0]) ∧ Rows w' b l ∧ l.length ≤ c ∧ c ≤ 9223372036854775807 ∧ Upd [] w w' := by
  refine (clocks_any a cap l w hx hlc hc hn hv).mono ?_
  rintro e w' ⟨v, vs, rfl, ho, hr, hu⟩
  obtain ⟨b, c, rfl, h1, h2, h3⟩ := own_view ho
  refine ⟨b, c, rfl, fun i hi => ?_, h1, h2, hu⟩
  obtain ⟨u, hu1, h8⟩ := hr i hi
  obtain ⟨h, rfl, _, hcell, _⟩ := h3 i u hu1
  obtain ⟨g, c', rfl, _⟩ := h8.some
  exact ⟨h, g, c', rfl, hcell, h8.intRow.1, h8.intRow.2⟩

def two : List Ev := [⟨0, 2, 5⟩, ⟨1, 3, 5⟩]
theorem two_valid : Valid two :=
  valid_snoc (l := [⟨0, 2, 5⟩]) (valid_snoc (l := []) valid_nil ⟨by simp, by simp, by simp, by simp, by simp [sends], by simp, by simp⟩) ⟨by simp, by simp, by simp, by simp, by simp, by simp [sends], by simp [takes]⟩
theorem two_row (w : World) : EvRow (w.alloc (.cells #[.int .i64 0, .int .i64 2, .int .i64 5, .int .i64 1, .int .i64 3, .int .i64 5] 31)) (some ⟨w.heap.size, 0, none⟩) two := by
  have h := blk_new w (.cells #[.int .i64 0, .int .i64 2, .int .i64 5, .int .i64 1, .int .i64 3, .int .i64 5] 31)
  intro i hi
  match i, hi with
  | 0, _ => exact ⟨_, rfl, (blk_cell h _).trans rfl, (blk_cell h _).trans rfl, (blk_cell h _).trans rfl⟩
  | 1, _ => exact ⟨_, rfl, (blk_cell h _).trans rfl, (blk_cell h _).trans rfl, (blk_cell h _).trans rfl⟩
theorem two_clock : clockAt two 1 = [1, 1, 0, 0, 0, 0, 0, 0] := by decide
theorem begun_clocks (w : World) : Calls Try.prog 24 #[.slice (some ⟨w.heap.size, 0, none⟩) 2 2] (w.alloc (.cells #[.int .i64 0, .int .i64 2, .int .i64 5, .int .i64 1, .int .i64 3, .int .i64 5] 31)) fun e w' =>
    ∃ h c g c', e = .returned (.tuple #[.slice (some ⟨h, 0, none⟩) 2 c, .int .i64 0]) ∧ w'.cell? ⟨h, 1, none⟩ = some (.slice (some ⟨g, 0, none⟩) 8 c') ∧ IntRow w' (some ⟨g, 0, none⟩) [1, 1, 0, 0, 0, 0, 0, 0] ∧ Upd [] w w' :=
  (clocks_rows _ 2 two _ (two_row w) (by decide) (by decide) (by decide) two_valid).mono fun e w' ⟨b, c, he, hr, _, _, hu⟩ => by
    obtain ⟨h, g, c', rfl, h2, h3, _⟩ := hr 1 (by decide)
    rw [two_clock] at h3
    exact ⟨h, c, g, c', he, h2, h3, ((Upd.refl _ _).alloc _).trans hu (by simp)⟩
theorem row_ones (w : World) : IntRow (w.alloc (.cells #[.int .i64 1, .int .i64 1, .int .i64 0, .int .i64 0, .int .i64 0, .int .i64 0, .int .i64 0, .int .i64 0] 3)) (some ⟨w.heap.size, 0, none⟩) [1, 1, 0, 0, 0, 0, 0, 0] := by
  have h := blk_new w (.cells #[.int .i64 1, .int .i64 1, .int .i64 0, .int .i64 0, .int .i64 0, .int .i64 0, .int .i64 0, .int .i64 0] 3)
  intro i hi
  refine ⟨_, rfl, ?_⟩
  have e : (⟨w.heap.size, 0, none⟩ : Addr).add i = ⟨w.heap.size, i, none⟩ := by unfold Addr.add; split <;> simp_all
  rw [e, blk_cell h]
  match i, hi with
  | 0, _ => rfl
  | 1, _ => rfl
  | 2, _ => rfl
  | 3, _ => rfl
  | 4, _ => rfl
  | 5, _ => rfl
  | 6, _ => rfl
  | 7, _ => rfl
theorem begun_equal (w : World) (g c : Nat) (h : IntRow w (some ⟨g, 0, none⟩) [1, 1, 0, 0, 0, 0, 0, 0]) : Calls Try.prog 30 #[.slice (some ⟨g, 0, none⟩) 8 c, .slice (some ⟨w.heap.size, 0, none⟩) 8 8] (w.alloc (.cells #[.int .i64 1, .int .i64 1, .int .i64 0, .int .i64 0, .int .i64 0, .int .i64 0, .int .i64 0, .int .i64 0] 3))
    fun e w' => e = .returned (.bool true) ∧ Upd [] w w' :=
  (EQ.equal_any _ 8 c [1, 1, 0, 0, 0, 0, 0, 0] _ 8 8 [1, 1, 0, 0, 0, 0, 0, 0] _ (h.upd ((Upd.refl _ _).alloc _)) rfl (row_ones w) rfl (by decide) (by decide)).mono
    fun _ _ ⟨he, q, hw⟩ => ⟨he.trans (by rw [decide_eq_true (rfl : ([1, 1, 0, 0, 0, 0, 0, 0] : List Int) = [1, 1, 0, 0, 0, 0, 0, 0])]), by rw [hw]; exact ((Upd.refl _ _).alloc _).drewN _⟩

set_option maxHeartbeats 4000000 in
set_option maxRecDepth 100000 in
theorem begun_any (w : World) : Calls Try.prog 19 #[] w fun e w' => e = .returned (.bool true) ∧ Upd [] w w' := by
  go_enter Try.func19, Try.ntmps19
  go_wp2_with fail
  refine (begun_clocks w).mono ?_
  rintro e w1 ⟨h, c, g, c', rfl, hc, hr, hu⟩
  have HR := hid hr
  have HU := hid hu
  clear hr hu
  go_wp2_with fail
  refine (begun_equal w1 g c' HR.out).mono ?_
  rintro e w2 ⟨rfl, hu⟩
  have HU2 := hid (HU.out.trans hu (by simp))
  clear hu HU
  go_wp2_with fail
  go_ret
  exact ⟨rfl, HU2.out⟩

set_option maxHeartbeats 4000000 in
set_option maxRecDepth 100000 in
theorem ahead_any (a : Option Addr) (cap : Nat) (l : List Ev) (i k : Nat) (w : World) (hx : EvRow w a l) (hlc : l.length ≤ cap) (hc : cap ≤ 9223372036854775807) (hn : l.length ≤ 200) (hv : Valid l) (hi : i < l.length) (hk : k < l.length) :
    Calls Try.prog 22 #[.slice a l.length cap, .int .i64 (i : Int), .int .i64 (k : Int)] w fun e w' => e = .returned (.tuple #[.bool (aheadL l i k), .int .i64 0]) ∧ Upd [] w w' := by
  obtain ⟨n, hnl⟩ : ∃ n, n = l.length := ⟨_, rfl⟩
  have cr := clocks_rows a cap l w hx hlc hc hn hv
  rw [← hnl] at cr ⊢
  have hi' := hid hi
  have hk' := hid hk
  rw [← hnl] at hi hk hlc hn
  have HN := hid hnl
  clear hnl hx hv
  go_enter Try.func22, Try.ntmps22
  go_wp2_with fail
  refine cr.mono ?_
  rintro e w1 ⟨b, c, rfl, hr, hlc1, hc1, hu⟩
  obtain ⟨h, g, c', rfl, h2, h3, h4⟩ := hr i hi'.out
  obtain ⟨h', g', c'', e', h2', h3', h4'⟩ := hr k hk'.out
  cases e'
  have H3 := hid h3
  have H4 := hid h4
  have H3' := hid h3'
  have H4' := hid h4'
  have HU := hid hu
  clear cr hr hu h3 h4 h3' h4'
  go_wp2_with fail
  go_quiet (first | (go_at_call 26; exact Calls.quiet_of_same (less_any (some ⟨g, 0, none⟩) 8 c' (clockAt l i) (some ⟨g', 0, none⟩) 8 c'' (clockAt l k) _ (H3.out.upd ((Upd.refl [] w1).drewN _)) H4.out (H3'.out.upd ((Upd.refl [] w1).drewN _)) H4'.out (by decide) (by decide))))
  all_goals
    go_wp2_with fail
    go_ret2
    exact ⟨rfl, HU.out.drewN _⟩
end Go.Proofs.Ytcdladnbcamgjaa.Ah
