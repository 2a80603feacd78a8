/- exploreBegun. -/
import Derived.Test.YtklacfdbpmkiiaaYh
namespace Go.Proofs.Ytklacfdbpmkiiaa.Y
open Go Go.RowKit Go.Proofs.Ytklacfdbpmkiiaa Go.Proofs.Ytklacfdbpmkiiaa.K Go.Proofs.Ytklacfdbpmkiiaa.M Go.Proofs.Ytklacfdbpmkiiaa.O Go.Proofs.Ytklacfdbpmkiiaa.R Go.Proofs.Ytklacfdbpmkiiaa.A Go.Proofs.Ytklacfdbpmkiiaa.MS
open Go.Proofs.Ytklacfdbpmkiiaa.X (D St Ps noD act wr dep may newC newH stp)

def P0 : Ps := [[⟨3, 0, 2⟩], [⟨4, 0, 2⟩]]
theorem ends_P0 : endsOf P0 = [⟨[2, 0, 0, 0], [0, 0, 0, 0], [1, 1, 0, 0]⟩] := by decide
theorem ok_P0 : Ok P0 := ⟨by decide, by decide, by decide⟩
/-- Two programs of one step each, as the text lays them. -/
theorem lit2 (w : World) (d e : D) : PAt (((w.alloc (.cells #[nv d.kind, nv d.cell, nv d.val] 49)).alloc (.cells #[nv e.kind, nv e.cell, nv e.val] 49)).alloc (.cells #[.slice (some ⟨w.heap.size, 0, none⟩) 1 1, .slice (some ⟨w.heap.size + 1, 0, none⟩) 1 1] 46)) (some ⟨w.heap.size + 1 + 1, 0, none⟩) [[d], [e]] ∧
    PNil (((w.alloc (.cells #[nv d.kind, nv d.cell, nv d.val] 49)).alloc (.cells #[nv e.kind, nv e.cell, nv e.val] 49)).alloc (.cells #[.slice (some ⟨w.heap.size, 0, none⟩) 1 1, .slice (some ⟨w.heap.size + 1, 0, none⟩) 1 1] 46)) (some ⟨w.heap.size + 1 + 1, 0, none⟩) [[d], [e]] ∧
    Upd [] w (((w.alloc (.cells #[nv d.kind, nv d.cell, nv d.val] 49)).alloc (.cells #[nv e.kind, nv e.cell, nv e.val] 49)).alloc (.cells #[.slice (some ⟨w.heap.size, 0, none⟩) 1 1, .slice (some ⟨w.heap.size + 1, 0, none⟩) 1 1] 46)) := by
  have b1 := K.blk_new w (.cells #[nv d.kind, nv d.cell, nv d.val] 49)
  have b2 := K.blk_alloc b1 (.cells #[nv e.kind, nv e.cell, nv e.val] 49)
  have c2 := blk_new2 w (.cells #[nv d.kind, nv d.cell, nv d.val] 49) (.cells #[nv e.kind, nv e.cell, nv e.val] 49)
  have b3 := K.blk_alloc b2 (.cells #[.slice (some ⟨w.heap.size, 0, none⟩) 1 1, .slice (some ⟨w.heap.size + 1, 0, none⟩) 1 1] 46)
  have c3 := K.blk_alloc c2 (.cells #[.slice (some ⟨w.heap.size, 0, none⟩) 1 1, .slice (some ⟨w.heap.size + 1, 0, none⟩) 1 1] 46)
  have d3 := K.blk_new ((w.alloc (.cells #[nv d.kind, nv d.cell, nv d.val] 49)).alloc (.cells #[nv e.kind, nv e.cell, nv e.val] 49)) (.cells #[.slice (some ⟨w.heap.size, 0, none⟩) 1 1, .slice (some ⟨w.heap.size + 1, 0, none⟩) 1 1] 46)
  rw [World.size_alloc, World.size_alloc] at d3
  refine ⟨fun i hi => ?_, fun i hi he => ?_, (((Upd.refl [] w).alloc _).alloc _).alloc _⟩
  · rcases (show i = 0 ∨ i = 1 by simp at hi; omega) with rfl | rfl
    · exact ⟨_, _, some ⟨w.heap.size, 0, none⟩, 1, rfl, d3, rfl, Nat.le_refl _, by omega, fun k hk => by
        obtain rfl : k = 0 := by simp at hk; omega
        exact ⟨_, _, rfl, b3, rfl, rfl, rfl⟩⟩
    · exact ⟨_, _, some ⟨w.heap.size + 1, 0, none⟩, 1, rfl, d3, rfl, Nat.le_refl _, by omega, fun k hk => by
        obtain rfl : k = 0 := by simp at hk; omega
        exact ⟨_, _, rfl, c3, rfl, rfl, rfl⟩⟩
  · rcases (show i = 0 ∨ i = 1 by simp at hi; omega) with rfl | rfl <;> cases he
set_option maxHeartbeats 8000000 in
set_option maxRecDepth 100000 in
theorem begun_any (w : World) : Calls Try.prog 16 #[] w fun e w' => e = .returned (.bool true) ∧ Upd [] w w' := by
  go_enter Try.func16, Try.ntmps16
  go_wp2_with fail
  have EN := ends_any (some ⟨w.heap.size + 1 + 1, 0, none⟩) 2 P0 _ (lit2 w ⟨3, 0, 2⟩ ⟨4, 0, 2⟩).1 (lit2 w ⟨3, 0, 2⟩ ⟨4, 0, 2⟩).2.1 (by decide) (by decide) (by decide) ok_P0
  have U0 := hid (lit2 w ⟨3, 0, 2⟩ ⟨4, 0, 2⟩).2.2
  refine EN.mono ?_
  rintro e w1 ⟨v, L, rfl, ho, hp, hu⟩
  have HU := hid (U0.out.trans hu (by simp))
  rw [ends_P0] at hp
  obtain rfl : L = [⟨[2, 0, 0, 0], [0, 0, 0, 0], [1, 1, 0, 0]⟩] := List.perm_singleton.1 hp
  obtain ⟨a, cap, rfl, -, -, hc⟩ := own_view ho
  obtain ⟨g, rfl, -, h8, -⟩ := hc 8 (.int .i64 1) rfl
  have gg : ∀ i u, (scells [⟨[2, 0, 0, 0], [0, 0, 0, 0], [1, 1, 0, 0]⟩])[i]? = some u → w1.cell? ⟨g, i, none⟩ = some u := fun i u hi => by
    obtain ⟨g', e, -, h, -⟩ := hc i u hi
    cases e; exact h
  have h9 := gg 9 (.int .i64 1) rfl
  have h10 := gg 10 (.int .i64 0) rfl
  have h11 := gg 11 (.int .i64 0) rfl
  have heq : (Op.equalIn 10000 33 (.agg #[.int .i64 1, .int .i64 1, .int .i64 0, .int .i64 0]) (.agg #[.int .i64 1, .int .i64 1, .int .i64 0, .int .i64 0])).run Try.prog w1 = .ok true w1 := eq33 9998 1 1 0 0 1 1 0 0 w1
  clear hc gg ho hp hu EN U0
  go_wp2_with fail
  go_ret
  exact ⟨rfl, HU.out⟩
end Go.Proofs.Ytklacfdbpmkiiaa.Y
