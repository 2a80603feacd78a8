/- slices.Clone and slices.DeleteFunc at actors. -/
import Derived.Test.YtgocminfohbedaaCj
import Derived.Lib.SliceRun
import Derived.Shelf.SlicesE.Clone
namespace Go.Proofs.Ytgocminfohbedaa.Cy
open Go Go.RowKit Go.Proofs.Ytgocminfohbedaa Go.Proofs.Ytgocminfohbedaa.K Go.Proofs.Ytgocminfohbedaa.M Go.Proofs.Ytgocminfohbedaa.O Go.Proofs.Ytgocminfohbedaa.So Go.Proofs.Ytgocminfohbedaa.R

def laysK_ren : Go.Shelf.Ren := ⟨fun | 41 => 24 | n => n, fun | 22 => 24 | 23 => 31 | 4 => 4 | n => n, fun | n => n⟩
theorem laysK : Go.Proofs.SlLaysE0.n41 Try.prog laysK_ren := {
  mixed := by kernel_rfl
  f41 := ⟨Try.f24.name, by decide, Try.func24.trans (congrArg some (by kernel_rfl))⟩
  t4 := Try.underlying4
  a4 := Try.isAgg4
  z4 := Try.sizeOf4
  v4 := Try.zeroValue4
  t22 := Try.underlying24
  a22 := Try.isAgg24
  z22 := Try.sizeOf24
  v22 := Try.zeroValue24 }
theorem kcells_one {w : World} {L : List (Know × Value)} {M : Nat} (h : RefsAt w L M) : ∀ u ∈ kcells L, u.oneCell' = true := fun u hu => by
  obtain ⟨p, hp, hm⟩ := List.mem_flatMap.1 hu
  obtain ⟨i, hi, e⟩ := List.mem_iff_getElem.1 hp
  obtain ⟨⟨ra, rk, er, -⟩, -⟩ := h i hi
  rw [List.getD_eq_getElem?_getD, List.getElem?_eq_getElem hi] at er
  simp only [Option.getD_some, e] at er
  simp [kvals] at hm
  rcases hm with rfl | rfl | rfl | rfl
  · rfl
  · rfl
  · rfl
  · rw [er]; rfl
/-- slices.Clone of actors. -/
theorem clone_know {w : World} {B n : Nat} {v : Value} {L : List (Know × Value)} {M : Nat} (h : w.ownsRow B 31 4 v n (kcells L)) (hR : RefsAt w L M) (hn : n = L.length) (h8 : n ≤ 1000) :
    Calls Try.prog 24 #[v] w fun e w' => ∃ v', e = .returned v' ∧ w'.ownsRow w.heap.size 31 4 v' n (kcells L) ∧ Upd [] w w' := by
  obtain ⟨i31, hi, hz0, hz1, hz2⟩ := info_parts info31
  obtain ⟨a, k, e, h1, h2, hc⟩ := own_view h
  subst e
  cases a with
  | none =>
    have h0 : n = 0 := by
      by_cases c : n = 0
      · exact c
      · obtain ⟨g, e, -⟩ := hc _ _ (kcells_get L 0 (by omega)).1
        cases e
    subst h0
    have hL : L = [] := List.eq_nil_of_length_eq_zero hn.symm
    subst hL
    refine (Go.Proofs.AnyE.slices_Clone_nil laysK 0 k w).mono ?_
    rintro e w' ⟨rfl, rfl⟩
    exact ⟨_, rfl, World.ownsRow_nil _ _ _ _, Upd.refl _ _⟩
  | some x =>
    have hx : ∃ g, x = ⟨g, 0, none⟩ := by
      rcases h.2 with ⟨e, _⟩ | ⟨g, cap, cur, e, _⟩
      · cases e
      · cases e; exact ⟨g, rfl⟩
    obtain ⟨g, rfl⟩ := hx
    refine (Go.Proofs.AnyE.slices_Clone laysK i31 _ 4 40 hi hz0 hz1 hz2 rfl (by decide) (fun w => by kernel_rfl) g 0 n k (kcells L) w (by rw [kcells_len]; omega) (by unfold maxLen; omega) (by omega) (fun j u hu => ?_) (kcells_one hR)).mono ?_
    · obtain ⟨g', e', _, c, _⟩ := hc j u hu
      cases e'
      rw [Nat.zero_add]; exact c
    · rintro e w' ⟨v', rfl, ho, _, hb⟩
      exact ⟨v', rfl, ho, Upd.of_below hb []⟩
set_option maxHeartbeats 2000000 in
set_option maxRecDepth 100000 in
theorem clos25 {w : World} {B X : Nat} {v : Value} {G : List Int} (p : Know × Value) (hX : w.cell? ⟨X, 0, none⟩ = some v) (hG : w.ownsRow B 3 1 v G.length (ints G)) (h8 : G.length ≤ 1000000) (hp : ∃ a m k, p.2 = .slice a m k) :
    Calls Try.prog 25 #[kval p, .pointer (some ⟨X, 0, none⟩)] w fun e w' => e = .returned (.bool (decide (p.1.ref ∈ G))) ∧ Upd [] w w' := by
  obtain ⟨⟨x, aw, ro, rf⟩, pv⟩ := p
  obtain ⟨a, m, k, rfl⟩ := hp
  obtain ⟨ag, kg, eg, -⟩ := own_view hG
  subst eg
  have hlt := World.block_lt_of_cell? w _ hX
  simp only at hlt
  have U := hid ((Upd.refl [] w).alloc (.cells #[.int .i64 x, .bool aw, .bool ro, .slice a m k] 31))
  have CN := hid (contains_own (own_new hG U.out) rfl h8 x)
  clear hG h8
  show Calls _ _ #[.agg #[.int .i64 x, .bool aw, .bool ro, .slice a m k], _] _ _
  go_enter Try.func25, Try.ntmps25
  go_wp2_with fail
  refine CN.out.mono ?_
  rintro e w' ⟨rfl, rfl⟩
  go_wp2_with fail
  go_ret
  exact ⟨rfl, U.out⟩

set_option maxHeartbeats 4000000 in
set_option maxRecDepth 100000 in
/-- slices.IndexFunc: the first actor of whom it is so. -/
theorem index25 {w : World} {B n k : Nat} {a : Option Addr} {L : List (Know × Value)} {X : Nat} (f : Nat → Bool) (hcl : ∀ j, j < n → ∀ wz, Upd [] w wz → Calls Try.prog 25 #[kval (L.getD j noKV), .pointer (some ⟨X, 0, none⟩)] wz fun e w' => e = .returned (.bool (f j)) ∧ Upd [] wz w') (ho : w.ownsRow B 31 4 (.slice a n k) n (kcells L)) (hn : n = L.length) (hn8 : n ≤ 1000) (hv : ∀ j, j < n → ∃ a m k, (L.getD j noKV).2 = .slice a m k) :
    Calls Try.prog 18 #[.slice a n k, .func (.func 25) #[] #[.pointer (some ⟨X, 0, none⟩)]] w fun e w' => ((e = .returned (.int .i64 (-1)) ∧ ∀ j, j < n → f j = false) ∨ (∃ i : Nat, e = .returned (.int .i64 (i : Int)) ∧ i < n ∧ f i = true ∧ ∀ j, j < i → f j = false)) ∧ Upd [] w w' := by
  have HC := hid hcl
  have HO := hid ho
  have HN := hid hn
  have HV := hid hv
  clear hcl ho hn hv
  go_enter Try.func18, Try.ntmps18
  go_wp2_with fail
  go_loopg [8] n (fun d v8 wr => ∃ (i : Nat), v8 = .int .i64 (i : Int) ∧ i ≤ n ∧ Hid (i + d = n) ∧ Hid (∀ j, j < i → f j = false) ∧ Hid (Upd [] w wr))
  case atStart => exact ⟨0, rfl, by omega, hid (by omega), hid (fun j hj => by omega), hid (Upd.refl _ _)⟩
  case round =>
    obtain ⟨i, rfl, hi, Hd, HF, HU⟩ := hrel
    by_cases hin : i < n
    · have hi' : (i : Int) < (n : Int) := by omega
      obtain ⟨d0, d1, d2, d3⟩ := kcells_get L i (by rw [← HN.out]; exact hin)
      obtain ⟨a5, k5, e5, _, _, hc⟩ := own_view (own_new HO.out HU.out)
      simp only [Value.slice.injEq] at e5
      obtain ⟨rfl, -, rfl⟩ := e5
      obtain ⟨g, e0, _, c0, _⟩ := hc _ _ d0
      subst e0
      obtain ⟨g', e', _, c1, _⟩ := hc _ _ d1
      cases e'
      obtain ⟨g', e', _, c2, _⟩ := hc _ _ d2
      cases e'
      obtain ⟨g', e', _, c3, _⟩ := hc _ _ d3
      cases e'
      have CL := HC.out i hin wr HU.out
      obtain ⟨pa, pm, pk, pe⟩ := HV.out i hin
      obtain ⟨⟨⟨x, aw, ro, rf⟩, pv⟩, hkv⟩ : ∃ kv, kv = L.getD i noKV := ⟨_, rfl⟩
      rw [← hkv] at c0 c1 c2 c3 CL pe
      simp only at c0 c1 c2 c3 pe
      subst pe
      have CL : Calls Try.prog 25 #[.agg #[.int .i64 x, .bool aw, .bool ro, .slice pa pm pk], .pointer (some ⟨X, 0, none⟩)] wr fun e w' => e = .returned (.bool (f i)) ∧ Upd [] wr w' := CL
      have HI := hid hin
      clear hkv d0 d1 d2 d3 hc hin
      cases hfi : f i with
      | true =>
        rw [hfi] at CL
        have CH := hid CL
        have HFI := hid hfi
        clear CL hfi
        go_wp2_with fail
        refine CH.out.mono ?_
        rintro e w' ⟨rfl, hu⟩
        have U6 := hid (HU.out.trans hu (fun t ht => by cases ht))
        clear hu
        go_wp2_with fail
        go_ret
        exact ⟨.inr ⟨i, rfl, HI.out, HFI.out, HF.out⟩, U6.out⟩
      | false =>
        rw [hfi] at CL
        have CH := hid CL
        have HFI := hid hfi
        clear CL hfi
        go_wp2_with fail
        refine CH.out.mono ?_
        rintro e w' ⟨rfl, hu⟩
        have U6 := hid (HU.out.trans hu (fun t ht => by cases ht))
        clear hu c0 c1 c2 c3
        go_wp2_with fail
        go_roundg (n - (i + 1))
        case measure => have := Hd.out; have := HI.out; omega
        case rel => exact ⟨i + 1, by go_num, HI.out, hid (Nat.add_sub_of_le HI.out), hid (fun j hj => by
          by_cases c : j = i
          · subst c; exact HFI.out
          · exact HF.out j (by omega)), U6⟩
    · have hni : ¬ (i : Int) < (n : Int) := by omega
      go_wp2_with fail
      go_ret
      exact ⟨.inl ⟨rfl, fun j hj => HF.out j (by omega)⟩, HU.out⟩

theorem run_clear4 (w : World) (b o n c : Nat) (hn : 0 < n) (hc : ∀ j, j < n * 4 → (w.cell? ⟨b, o + j, none⟩).isSome = true) (hf : ∀ j, j < n * 4 → w.frozen? ⟨b, o + j, none⟩ = false) :
    ∃ zl : List Value, zl.length = n * 4 ∧ ∀ ty : TypeId, (Builtin.clear_ #[24] ty #[.slice (some ⟨b, o, none⟩) n c]).run Try.prog w = .ok (.tuple #[]) (w.setCells b o zl) := by
  obtain ⟨z, hz⟩ : ∃ z : Value, z = .agg #[.int .i64 0, .bool false, .bool false, .slice none 0 0] := ⟨_, rfl⟩
  have hv : ∀ w, (zeroValue 31).run Try.prog w = .ok z w := fun w => by rw [hz]; kernel_rfl
  have hzc : z.cells = #[.int .i64 0, .bool false, .bool false, .slice none 0 0] := by rw [hz]; rfl
  have hlen : (Builtin.zeroCells z.cells n).toList.length = n * 4 := by rw [hzc]; simp [Builtin.zeroCells]
  have hone : ∀ v ∈ (Builtin.zeroCells z.cells n).toList, v.oneCell' = true := fun v hv => by
    rw [hzc] at hv
    simp [Builtin.zeroCells] at hv
    obtain ⟨j, hj, rfl⟩ := hv
    have : j % 4 = 0 ∨ j % 4 = 1 ∨ j % 4 = 2 ∨ j % 4 = 3 := by omega
    rcases this with q | q | q | q <;> simp [q] <;> rfl
  have hst := run_storeCells_cells (P := Try.prog) b o (Builtin.zeroCells z.cells n).toList 0 w (by simpa [hlen] using hc) (by simpa [hlen] using hf) hone
  simp only [Nat.add_zero] at hst
  refine ⟨(Builtin.zeroCells z.cells n).toList, hlen, fun ty => ?_⟩
  obtain ⟨m, rfl⟩ : ∃ m, n = m + 1 := ⟨n - 1, by omega⟩
  simp [Builtin.clear_, run_underlying Try.underlying24, hv, hst]
end Go.Proofs.Ytgocminfohbedaa.Cy
