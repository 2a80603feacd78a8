/- slices.SortFunc at rows of steps that a call itself made. -/
import Derived.Test.YtnikkakeiajmgaaShelf
import Derived.Test.YtnikkakeiajmgaaPd
namespace Go.Proofs.Ytnikkakeiajmgaa.Pa
open Go Go.RowKit Go.Sort Go.Proofs.Ytnikkakeiajmgaa Go.Proofs.Ytnikkakeiajmgaa.K Go.Proofs.Ytnikkakeiajmgaa.M Go.Proofs.Ytnikkakeiajmgaa.O Go.Proofs.Ytnikkakeiajmgaa.R

def cfS (x y : St) : Int := ((x.who.val : Nat) : Int) - ((y.who.val : Nat) : Int)
theorem ltS (x y : St) : ltOf cfS x y = decide (whoS x < whoS y) := by
  unfold ltOf cfS whoS
  exact decide_eq_decide.2 (by omega)
theorem swoS : SWO (ltOf cfS) where
  irrefl x := by rw [ltS]; simp
  trans x y z h1 h2 := by rw [ltS] at *; simp at *; omega
  ntrans x y z h1 h2 := by rw [ltS] at *; simp at *; omega

set_option maxHeartbeats 4000000 in
set_option maxRecDepth 100000 in
theorem closure39 (x y : St) (W : World) : Calls Try.prog 39 #[.agg (stc x).toArray, .agg (stc y).toArray] W fun e w' => e = .returned (.int .i64 (cfS x y)) ∧ ∃ q os', w' = grow (W.drewN q) os' := by
  unfold stc cfS
  obtain ⟨⟨p, hp⟩, ⟨q, hq⟩, ⟨r, hr⟩⟩ := x
  obtain ⟨⟨p2, hp2⟩, ⟨q2, hq2⟩, ⟨r2, hr2⟩⟩ := y
  dsimp only
  have hw : IntKind.i64.wrap ((p : Int) - (p2 : Int)) = (p : Int) - (p2 : Int) := IntWalk.i64_in _ (by omega)
  go_enter Try.func39, Try.ntmps39
  go_wp2_with fail
  go_ret
  exact ⟨rfl, 0, _, by rw [alloc_eq_grow, alloc_eq_grow, grow_grow]; rfl⟩

theorem isAgg29 (w : World) : (isAgg 29).run Try.prog w = .ok true w := by kernel_rfl
theorem sizeOf29 (w : World) : (Go.sizeOf 29).run Try.prog w = .ok 3 w := by kernel_rfl

theorem flat_cells (L : List St) : (flatK stc 3 L.toArray).toList = cellsOf L := by
  refine List.ext_getElem? (fun t => ?_)
  by_cases ht : t < L.length * 3
  · have h1 : t < (flatK stc 3 L.toArray).size := by simpa using ht
    have h2 : t / 3 < L.length := by omega
    rw [Array.getElem?_toList, Array.getElem?_eq_getElem h1, ← getElem!_pos _ t h1, get_flatK _ _ _ _ (by simpa using ht)]
    have e : L.toArray[t / 3]! = L[t / 3] := by simp [h2]
    rw [e]
    obtain ⟨c0, c1, c2⟩ := cells_get L (t / 3) h2
    have hm : t % 3 = 0 ∨ t % 3 = 1 ∨ t % 3 = 2 := by omega
    rcases hm with hm | hm | hm
    · rw [show t / 3 * 3 = t by omega] at c0
      rw [c0, hm]; rfl
    · rw [show t / 3 * 3 + 1 = t by omega] at c1
      rw [c1, hm]; rfl
    · rw [show t / 3 * 3 + 2 = t by omega] at c2
      rw [c2, hm]; rfl
  · rw [List.getElem?_eq_none (by simp; omega), List.getElem?_eq_none (by rw [cellsOf_length]; omega)]

theorem heap_putRow (w : World) (g : Nat) (d : Array Value) (k : Nat) (os : Array Obj) (n : Nat) (hk : k < w.heap.size) :
    (Sort.grow (Sort.putRow id (Sort.ahead w n) g 0 d) os).heap[k]? = if k = g then (w.heap[g]?).map (Sort.onCells (Sort.putCells id 0 d)) else w.heap[k]? := by
  unfold Sort.grow Sort.putRow Sort.mapBlock Sort.ahead
  simp only
  rw [Array.getElem?_append_left (by simpa using hk), Array.getElem?_modify]
  by_cases e : g = k
  · subst e; simp
  · simp [e, Ne.symm e]

theorem sort_steps {B : Nat} {v : Value} {L : List St} {w : World} (h : StepsOf w B v L) (h0 : L ≠ []) (h12 : L.length ≤ 12) :
    Calls Try.prog 38 #[v, .func (.func 39) #[] #[]] w fun e w' => e = .returned (.tuple #[]) ∧ (∃ L', StepsOf w' B v L' ∧ L'.Perm L ∧ L'.Pairwise (fun a b => whoS a ≤ whoS b)) ∧ Upd v.ownBlock.toList w w' := by
  have hp := List.length_pos_iff.2 h0
  rcases h.2 with ⟨rfl, hx⟩ | ⟨g, cap, cur, rfl, hb, hg, h1, h2, h3, h4⟩
  · omega
  · have hgl := K.blk_lt hg
    have hcl := cellsOf_length L
    have hcs : L.length * 3 ≤ cur.size := by
      have := congrArg List.length h4; rw [hcl, List.length_take] at this; simp at this; omega
    have hH : HoldsK stc 3 w g 0 L.toArray := fun j hj => by
      rw [Nat.zero_add]
      refine ⟨?_, K.blk_frozen hg j⟩
      have hj' : j < L.length * 3 := by simpa using hj
      rw [K.blk_cell hg, ← Array.getElem?_toList]
      have e2 : (cur.toList.take (L.length * 3))[j]? = (cellsOf L)[j]? := by rw [h4]
      rw [List.getElem?_take, if_pos hj'] at e2
      rw [e2, ← flat_cells, Array.getElem?_toList, Array.getElem?_eq_getElem hj, getElem!_pos _ j hj]
      rfl
    have eg : ∀ args w, (callFunc 39 args).run Try.prog w = .ok (.enter 39 args) w := enters_of Try.func39 (by kernel_rfl) rfl
    have hlen : ∀ (n : Nat) (W : World), n ≤ 12 → Calls Try.prog 48 #[.int .u64 n] W fun e w' => (∃ l : Int, e = .returned (.int .i64 l)) ∧ w' = W := fun n W hn =>
      (Try.bits_Len n W (by omega) (by omega)).mono fun _ _ ⟨he, hw⟩ => ⟨⟨_, he⟩, hw⟩
    have hcon := AnyQ.slices_SortFunc_small_sorted Try.sortSt 3 isAgg29 sizeOf29 stc (fun _ => rfl) (fun x v hv => stc_one x v hv) cfS 39 #[] swoS g 0 cap L.toArray w eg (fun _ _ _ _ x y => closure39 x y _) hH hgl (by simpa using h12) hlen
    refine hcon.mono ?_
    rintro e w' ⟨rfl, d', n, os, hpm, hso, rfl⟩
    obtain ⟨p1, -, p3⟩ := hpm
    have hsz : d'.size = L.length := by rw [p1]; simp
    obtain ⟨L', rfl⟩ : ∃ L' : List St, d' = L'.toArray := ⟨d'.toList, by simp⟩
    have hl' : L'.length = L.length := by simpa using hsz
    have hblk := heap_putRow w g (flatK stc 3 L'.toArray) g os n hgl
    rw [if_pos rfl, hg] at hblk
    have hperm : L'.Perm L := by
      simp only [List.size_toArray] at p3
      have e1 : (L'.toArray.extract 0 L.length).toList = L' := by simp [← hl']
      have e2 : (L.toArray.extract 0 L.length).toList = L := by simp
      rwa [e1, e2] at p3
    refine ⟨rfl, ⟨L', ⟨by rw [cellsOf_length], .inr ⟨g, cap, Sort.putCells id 0 (flatK stc 3 L'.toArray) cur, by rw [hl'], hb, hblk, by omega, h2, by simpa [Sort.putCells] using h3, ?_⟩⟩, hperm, ?_⟩, ⟨rfl, rfl, rfl, ?_, fun k hk hs => ?_⟩⟩
    · apply List.ext_getElem?
      intro z
      by_cases hz : z < L'.length * 3
      · have hzc : z < cur.size := by omega
        rw [List.getElem?_take, if_pos hz, Array.getElem?_toList]
        simp only [Sort.putCells, Array.getElem?_mapIdx, Array.getElem?_eq_getElem hzc, Option.map_some, Nat.zero_add]
        have hzs : z < (flatK stc 3 L'.toArray).size := by simpa using hz
        rw [if_pos ⟨Nat.zero_le _, hzs⟩, ← flat_cells, Array.getElem?_toList, Array.getElem?_eq_getElem hzs, Nat.sub_zero, getElem!_pos _ z hzs]
        rfl
      · rw [List.getElem?_take, if_neg hz, List.getElem?_eq_none (by rw [cellsOf_length]; omega)]
    · refine List.pairwise_iff_getElem.2 (fun i j hi hj hij => ?_)
      have := hso i j (Nat.zero_le _) hij (by simp; omega)
      rw [ltS] at this
      have e1 : L'.toArray[j]! = L'[j] := by simp [hj]
      have e2 : L'.toArray[i]! = L'[i] := by simp [hi]
      rw [e1, e2] at this
      simpa using this
    · unfold sortWorldK putRowK Sort.grow Sort.putRow Sort.mapBlock Sort.ahead
      simp
    · have hkg : k ≠ g := by intro e; apply hs; simp [Value.ownBlock, e]
      have := heap_putRow w g (flatK stc 3 L'.toArray) k os n hk
      rw [if_neg hkg] at this
      exact this
end Go.Proofs.Ytnikkakeiajmgaa.Pa
