/- slices.Delete of one element, at a row of ways that the call itself made. -/
import Derived.Test.YtmdhhembkmkfdaaWs
import Derived.Deep.RegionWith
import Derived.BigRegion
import Derived.BigQuiet
import Derived.Deep.QuietTactic
import Derived.StillTailTactics
namespace Go.Proofs.Ytmdhhembkmkfdaa.Wt
open Go Go.RowKit Go.Proofs.Ytmdhhembkmkfdaa.K Go.Proofs.Ytmdhhembkmkfdaa.M Go.Proofs.Ytmdhhembkmkfdaa.O

theorem region_tail {P : Program} {id : Nat} {Q : Exit → Act → World → Prop} {a : Act} {w : World} {l : List Oper} (n : Nat) (hm : P.follows .mixedOrders = true) (hB : Region.lexTailB .any l.toArray n = true)
    (h : wpStill P l.toArray w.drew (fun a' => wpList P l.toArray Q (l.drop n) a' w.drew) (l.take n) a) : (Code.region id l.toArray true).wp P Q a w := wp_region_still_tail n hm hB h

theorem wayCells_len : ∀ l : List Way, (wayCells l).length = l.length * 4
  | [] => rfl
  | x :: l => by have := wayCells_len l; simp only [wayCells, List.flatMap_cons, List.length_append, List.length_cons] at this ⊢; simp only [wayVals, List.length_cons, List.length_nil]; omega
theorem wayCells_app (l m : List Way) : wayCells (l ++ m) = wayCells l ++ wayCells m := by simp [wayCells]
theorem wayCells_take (l : List Way) (k : Nat) : (wayCells l).take (k * 4) = wayCells (l.take k) := by
  by_cases h : k ≤ l.length
  · have e : wayCells l = wayCells (l.take k) ++ wayCells (l.drop k) := by rw [← wayCells_app, List.take_append_drop]
    rw [e, List.take_append_of_le_length (by rw [wayCells_len, List.length_take]; omega), List.take_of_length_le (by rw [wayCells_len, List.length_take]; omega)]
  · rw [List.take_of_length_le (by rw [wayCells_len]; omega), List.take_of_length_le (by omega)]
theorem wayCells_drop (l : List Way) (k : Nat) (h : k ≤ l.length) : (wayCells l).drop (k * 4) = wayCells (l.drop k) := by
  have e : wayCells l = wayCells (l.take k) ++ wayCells (l.drop k) := by rw [← wayCells_app, List.take_append_drop]
  rw [e, List.drop_append_of_le_length (by rw [wayCells_len, List.length_take]; omega), List.drop_of_length_le (by rw [wayCells_len, List.length_take]; omega)]
  rfl
theorem wayCells_erase (l : List Way) (i : Nat) (h : i < l.length) : wayCells (l.eraseIdx i) = (wayCells l).take (i * 4) ++ (wayCells l).drop ((i + 1) * 4) := by
  rw [wayCells_take, wayCells_drop l (i + 1) (by omega), ← wayCells_app, List.eraseIdx_eq_take_drop_succ]
/-- 'append(s, x...)' where there is room, in place. -/
theorem wpList_room {P : Program} {W : World} {ops : Array Oper} {rest : List Oper} {o : Oper} {a : Act} {Q : Exit → Act → World → Prop} (hgd : o.guard = none) (s x : Operand) (t e : TypeId)
    (ho : o.op = .call { callee := .builtin .append, args := #[s, x], argTypes := #[t, t] }) (i : TypeInfo) (ht : P.underlying t = some (.slice e)) (hi : P.info? e = some i)
    (g sLen sCap : Nat) (cur : Array Value) (hg : W.heap[g]? = some (.cells cur e (0, 0))) (hs : a.eval s = .slice (some ⟨g, 0, none⟩) sLen sCap)
    (ad : Addr) (m c : Nat) (news : List Value) (hx : a.eval x = .slice (some ad) m c) (hl : news.length = m * i.size) (hnews : ∀ j u, news[j]? = some u → W.cell? (ad.add j) = some u) (h1 : ∀ u ∈ news, u.oneCell' = true)
    (hroom : sLen + m ≤ sCap) (hfit : sLen * i.size + news.length ≤ cur.size)
    (h : wpList P ops Q rest (a.put o.dst (.slice (some ⟨g, 0, none⟩) (sLen + m) sCap)) (W.setRow g (cur.toList.take (sLen * i.size) ++ news ++ cur.toList.drop (sLen * i.size + news.length)).toArray)) :
    wpList P ops Q (o :: rest) a W := by
  refine wpList_plain hgd fun K hK => ?_
  have hr := fun ty => run_append_room (P := P) (w := W) t ty e i ht hi g sLen sCap cur hg ad m c news hl hnews h1 hroom hfit
  unfold Oper.wp execOp
  simp only [ho, resolve, invoke, builtin, Sem.run_bind, Sem.run_pure, Result.andThen_ok, List.map_toArray, List.map_cons, List.map_nil, hs, hx, hr]
  exact hK _ _ h
theorem wayCells_one (l : List Way) : ∀ u ∈ wayCells l, u.oneCell' = true := fun u hu => by
  obtain ⟨x, _, hm⟩ := List.mem_flatMap.1 hu
  exact wayVals_one x u hm
/-- 'clear' of one way. -/
theorem run_clear1 {W : World} (g k c : Nat) (cur : Array Value) (hg : W.heap[g]? = some (.cells cur 92 (0, 0))) (hfit : k + 4 ≤ cur.size) (ty : TypeId) (m : Nat) (hm : m = 1) :
    (Builtin.clear_ #[70] ty #[.slice (some ⟨g, k, none⟩) m c]).run Try.prog W = .ok (.tuple #[]) (W.setRow g (cur.toList.take k ++ wayVals noWay ++ cur.toList.drop (k + 4)).toArray) := by
  subst hm
  have hst := run_storeCells_at Try.prog g k 92 (wayVals noWay) 0 cur W hg (by simpa [wayVals] using hfit) (wayVals_one noWay)
  simp only [Nat.add_zero] at hst
  have hz : (zeroValue 92).run Try.prog W = .ok (.agg #[.int .i64 0, .int .i64 0, .int .i64 0, .bool false]) W := Try.zeroValue92 W
  have hc : (Builtin.zeroCells (Value.agg #[.int .i64 0, .int .i64 0, .int .i64 0, .bool false]).cells 1).toList = wayVals noWay := by simp [Builtin.zeroCells, Value.cells, wayVals, noWay, List.range_succ]
  simp only [wayVals, List.length_cons, List.length_nil] at hst hc
  simp [Builtin.clear_, run_underlying Try.underlying70, hz, hc, hst, wayVals]

set_option maxHeartbeats 4000000 in
set_option maxRecDepth 100000 in
theorem delete_any (B : Nat) (v : Value) (l : List Way) (n i : Nat) (w : World) (hv : w.ownsRow B 92 4 v n (wayCells l)) (hn : n = l.length) (hi : i < n) (h60 : n ≤ 60) :
    Calls Try.prog 63 #[v, .int .i64 (i : Int), .int .i64 ((i : Int) + 1)] w fun e w' => ∃ v', e = .returned v' ∧ w'.ownsRow B 92 4 v' (n - 1) (wayCells (l.eraseIdx i)) ∧ Upd v.ownBlock.toList w w' := by
  obtain ⟨i92, hi92, hz92a, hz92b, hz92c⟩ := info_parts info92
  have HI92 := hid hi92
  have HA92 := hid hz92a
  have HB92 := hid hz92b
  clear hi92 hz92a hz92b hz92c
  rcases hv with ⟨hlen, ⟨_, h0⟩ | ⟨g, cap, cur, rfl, hbg, hg, hnc, hcm, hcs, htake⟩⟩
  · omega
  unfold maxLen at hcm
  have HG := hid hg
  have HT := hid htake
  have HS := hid hcs
  have HBG := hid hbg
  have HLEN := hid hlen
  clear hg htake hcs hbg hlen
  have HN := hid hn
  clear hn
  have s0 : 0 ≤ (i : Int) + 1 := by omega
  have s1 : (i : Int) + 1 ≤ (n : Int) := by omega
  have s2 : (n : Int) ≤ (cap : Int) := by omega
  have s3 : ((i : Int) == (i : Int) + 1) = false := by rw [beq_eq_false_iff_ne]; omega
  have s4 : (i : Int) ≤ (n : Int) := by omega
  have s5 : (i : Int) ≤ (cap : Int) := by omega
  go_enter Try.func63, Try.ntmps63
  go_wp2_with fail
  refine region_tail 6 (by kernel_rfl) (by kernel_rfl) ?_
  simp only [List.take_succ_cons, List.take_zero, List.drop_succ_cons, List.drop_zero]
  repeat still_step
  refine wpStill_nil ?_
  obtain ⟨ad, had, hsrc⟩ : ∃ ad, (if cap = i + 1 then some (⟨g, 0, none⟩ : Addr) else some ⟨g, (i + 1) * 4, none⟩) = some ad ∧ ∀ j u, ((wayCells l).drop ((i + 1) * 4))[j]? = some u → w.drew.cell? (ad.add j) = some u := by
    by_cases c : cap = i + 1
    · refine ⟨_, if_pos c, fun j u hj => ?_⟩
      rw [List.drop_of_length_le (by have := HLEN.out; omega)] at hj
      simp at hj
    · refine ⟨_, if_neg c, fun j u hj => ?_⟩
      rw [List.getElem?_drop, ← HT.out, List.getElem?_take] at hj
      split at hj
      · have e : (⟨g, (i + 1) * 4, none⟩ : Addr).add j = ⟨g, (i + 1) * 4 + j, none⟩ := by unfold Addr.add; split <;> simp_all
        rw [e]
        show w.cell? _ = _
        rw [blk_cell HG.out, ← Array.getElem?_toList]; exact hj
      · cases hj
  rw [had]
  have HSRC := hid hsrc
  clear had hsrc
  have e9 : i + (n - (i + 1)) = n - 1 := by omega
  have E9 := hid e9
  obtain ⟨c1, hc1⟩ : ∃ c1, c1 = (cur.toList.take (i * 4) ++ (wayCells l).drop ((i + 1) * 4) ++ cur.toList.drop (i * 4 + ((wayCells l).drop ((i + 1) * 4)).length)).toArray := ⟨_, rfl⟩
  have C1 := hid hc1
  have hnl : ((wayCells l).drop ((i + 1) * 4)).length = (n - (i + 1)) * 4 := by rw [List.length_drop, HLEN.out]; omega
  have NL := hid hnl
  have sz1 : c1.size = cap * 4 := by
    rw [hc1]
    simp only [List.size_toArray, List.length_append, List.length_take, List.length_drop, Array.length_toList, HS.out, HLEN.out]; omega
  have SZ1 := hid sz1
  have HG1 := hid (setRow_heap w.drew g cur c1 92 (0, 0) HG.out)
  clear e9 hc1 hnl sz1
  obtain ⟨c2, hc2⟩ : ∃ c2, c2 = (c1.toList.take ((n - 1) * 4) ++ wayVals noWay ++ c1.toList.drop ((n - 1) * 4 + 4)).toArray := ⟨_, rfl⟩
  have C2 := hid hc2
  have hcl := fun ty => run_clear1 g ((n - 1) * 4) (cap - (n - 1)) c1 HG1.out (by rw [SZ1.out]; omega) ty (n - (n - 1)) (by omega)
  rw [← hc2] at hcl
  clear hc2
  have t1 : (n : Int) - 1 ≤ (n : Int) := by omega
  have t2 : ((n - 1 : Nat) : Int) ≤ (n : Int) := by omega
  go_wp2_with (first | (at_builtin; refine wpList_room rfl (.tmp 22) (.tmp 25) 70 92 rfl i92 Try.underlying70 HI92.out g i cap cur HG.out rfl ad (n - (i + 1)) _ ((wayCells l).drop ((i + 1) * 4)) rfl (by rw [HB92.out]; exact NL.out) HSRC.out (fun u hu => wayCells_one l u (List.mem_of_mem_drop hu)) (by omega) (by rw [HB92.out, NL.out, HS.out]; omega) ?_; rw [HB92.out, ← C1.out, E9.out]))
  go_ret
  refine ⟨_, rfl, ⟨by rw [wayCells_len, List.length_eraseIdx, if_pos (by rw [← HN.out]; exact hi), ← HN.out], .inr ⟨g, cap, c2, rfl, HBG.out, setRow_heap _ g c1 _ 92 (0, 0) HG1.out, by omega, by unfold maxLen; omega, ?_, ?_⟩⟩, ?_⟩
  · have := SZ1.out
    rw [C2.out]
    simp only [List.size_toArray, List.length_append, List.length_take, List.length_drop, Array.length_toList, wayVals, List.length_cons, List.length_nil]; omega
  · have h1 : c1.toList.take ((n - 1) * 4) = wayCells (l.eraseIdx i) := by
      rw [C1.out, wayCells_erase l i (by rw [← HN.out]; exact hi), ← HT.out]
      have := NL.out
      have hs := HS.out
      rw [← HT.out] at this
      simp only [List.take_take]
      rw [List.take_append_of_le_length (by simp only [List.length_append, List.length_take, Array.length_toList, this]; omega)]
      rw [show min (i * 4) (n * 4) = i * 4 by omega]
      rw [List.take_of_length_le (by simp only [List.length_append, List.length_take, Array.length_toList, this]; omega)]
    rw [C2.out]
    show List.take ((n - 1) * 4) _ = _
    have hs := SZ1.out
    rw [List.append_assoc, List.take_append_of_le_length (by rw [List.length_take, Array.length_toList]; omega), List.take_take, Nat.min_self]
    exact h1
  · exact ⟨rfl, rfl, rfl, by simp [World.setRow], fun k _ hk => by
      have hne : k ≠ g := fun e => hk (by simp [Value.ownBlock, e])
      rw [setRow_other _ g k _ hne, setRow_other _ g k _ hne]; rfl⟩
end Go.Proofs.Ytmdhhembkmkfdaa.Wt
