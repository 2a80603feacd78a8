/- slices.Delete of one step, at a row that the call itself made. -/
import Derived.Test.YtnikkakeiajmgaaPq
namespace Go.Proofs.Ytnikkakeiajmgaa.Pa
open Go Go.RowKit Go.Proofs.Ytnikkakeiajmgaa Go.Proofs.Ytnikkakeiajmgaa.K Go.Proofs.Ytnikkakeiajmgaa.M Go.Proofs.Ytnikkakeiajmgaa.O Go.Proofs.Ytnikkakeiajmgaa.R

def noSt : St := ⟨0, 0, 0⟩
theorem cells_drop (l : List St) (k : Nat) (h : k ≤ l.length) : (cellsOf l).drop (k * 3) = cellsOf (l.drop k) := by
  have e : cellsOf l = cellsOf (l.take k) ++ cellsOf (l.drop k) := by rw [← cellsOf_append, List.take_append_drop]
  rw [e, List.drop_append_of_le_length (by rw [cellsOf_length, List.length_take]; omega), List.drop_of_length_le (by rw [cellsOf_length, List.length_take]; omega)]
  rfl
theorem cells_erase (l : List St) (i : Nat) (h : i < l.length) : cellsOf (l.eraseIdx i) = (cellsOf l).take (i * 3) ++ (cellsOf l).drop ((i + 1) * 3) := by
  rw [cells_take, cells_drop l (i + 1) (by omega), ← cellsOf_append, List.eraseIdx_eq_take_drop_succ]
/-- 'append(s, x...)' where there is room, in place. -/
theorem wpList_room {P : Program} {W : World} {ops : Array Oper} {rest : List Oper} {o : Oper} {a : Act} {Q : Exit → Act → World → Prop} (hgd : o.guard = none) (s x : Operand) (t e : TypeId)
    (ho : o.op = .call { callee := .builtin .append, args := #[s, x], argTypes := #[t, t] }) (i : TypeInfo) (ht : P.underlying t = some (.slice e)) (hi : P.info? e = some i)
    (g sLen sCap : Nat) (cur : Array Value) (hg : W.heap[g]? = some (.cells cur e (0, 0))) (hs : a.eval s = .slice (some ⟨g, 0, none⟩) sLen sCap)
    (ad : Addr) (m c : Nat) (news : List Value) (hx : a.eval x = .slice (some ad) m c) (hl : news.length = m * i.size) (hnews : ∀ j u, news[j]? = some u → W.cell? (ad.add j) = some u) (h1 : ∀ u ∈ news, u.oneCell' = true)
    (hroom : sLen + m ≤ sCap) (hfit : sLen * i.size + news.length ≤ cur.size)
    (h : wpList P ops Q rest (a.put o.dst (.slice (some ⟨g, 0, none⟩) (sLen + m) sCap)) (W.setRow g (cur.toList.take (sLen * i.size) ++ news ++ cur.toList.drop (sLen * i.size + news.length)).toArray)) :
    wpList P ops Q (o :: rest) a W := by
  refine wpList_plain hgd fun K hK => ?_
  have hr := fun ty => run_append_room (P := P) (w := W) t ty e i ht hi g sLen sCap cur hg ad m c news hl hnews h1 hroom hfit
  unfold Oper.wp execOp
  simp only [ho, resolve, invoke, builtin, Sem.run_bind, Sem.run_pure, Result.andThen_ok, List.map_toArray, List.map_cons, List.map_nil, hs, hx, hr]
  exact hK _ _ h
/-- 'clear' of one way. -/
theorem run_clear1 {W : World} (g k c : Nat) (cur : Array Value) (hg : W.heap[g]? = some (.cells cur 29 (0, 0))) (hfit : k + 3 ≤ cur.size) (ty : TypeId) (m : Nat) (hm : m = 1) :
    (Builtin.clear_ #[24] ty #[.slice (some ⟨g, k, none⟩) m c]).run Try.prog W = .ok (.tuple #[]) (W.setRow g (cur.toList.take k ++ stc noSt ++ cur.toList.drop (k + 3)).toArray) := by
  subst hm
  have hst := run_storeCells_at Try.prog g k 29 (stc noSt) 0 cur W hg (by simpa [stc] using hfit) (stc_one noSt)
  simp only [Nat.add_zero] at hst
  have hz : (zeroValue 29).run Try.prog W = .ok (.agg #[.int .i64 0, .int .i64 0, .int .i64 0]) W := Try.zeroValue29 W
  have hc : (Builtin.zeroCells (Value.agg #[.int .i64 0, .int .i64 0, .int .i64 0]).cells 1).toList = stc noSt := by simp [Builtin.zeroCells, Value.cells, stc, noSt, List.range_succ]
  simp only [stc, List.length_cons, List.length_nil] at hst hc
  simp [Builtin.clear_, run_underlying Try.underlying24, hz, hc, hst, stc]

set_option maxHeartbeats 4000000 in
set_option maxRecDepth 100000 in
theorem delete_any (B : Nat) (v : Value) (l : List St) (n i : Nat) (w : World) (hv : w.ownsRow B 29 3 v n (cellsOf l)) (hn : n = l.length) (hi : i < n) (h60 : n ≤ 60) :
    Calls Try.prog 43 #[v, .int .i64 (i : Int), .int .i64 ((i : Int) + 1)] w fun e w' => ∃ v', e = .returned v' ∧ w'.ownsRow B 29 3 v' (n - 1) (cellsOf (l.eraseIdx i)) ∧ (∀ k, v'.ownBlock = some k → v.ownBlock = some k) ∧ Upd v.ownBlock.toList w w' := by
  obtain ⟨i29, hi29, hz29a, hz29b, hz29c⟩ := info_parts info29
  have HI29 := hid hi29
  have HA29 := hid hz29a
  have HB29 := hid hz29b
  clear hi29 hz29a hz29b hz29c
  rcases hv with ⟨hlen, ⟨_, h0⟩ | ⟨g, cap, cur, rfl, hbg, hg, hnc, hcm, hcs, htake⟩⟩
  · omega
  unfold maxLen at hcm
  have HG := hid hg
  have HT := hid htake
  have HS := hid hcs
  have HBG := hid hbg
  have HLEN := hid hlen
  clear hg htake hcs hbg hlen
  have HN := hid hn
  clear hn
  have s0 : 0 ≤ (i : Int) + 1 := by omega
  have s1 : (i : Int) + 1 ≤ (n : Int) := by omega
  have s2 : (n : Int) ≤ (cap : Int) := by omega
  have s3 : ((i : Int) == (i : Int) + 1) = false := by rw [beq_eq_false_iff_ne]; omega
  have s4 : (i : Int) ≤ (n : Int) := by omega
  have s5 : (i : Int) ≤ (cap : Int) := by omega
  go_enter Try.func43, Try.ntmps43
  go_wp2_with fail
  refine region_tail 6 (by kernel_rfl) (by kernel_rfl) ?_
  simp only [List.take_succ_cons, List.take_zero, List.drop_succ_cons, List.drop_zero]
  repeat still_step
  refine wpStill_nil ?_
  obtain ⟨ad, had, hsrc⟩ : ∃ ad, (if cap = i + 1 then some (⟨g, 0, none⟩ : Addr) else some ⟨g, (i + 1) * 3, none⟩) = some ad ∧ ∀ j u, ((cellsOf l).drop ((i + 1) * 3))[j]? = some u → w.drew.cell? (ad.add j) = some u := by
    by_cases c : cap = i + 1
    · refine ⟨_, if_pos c, fun j u hj => ?_⟩
      rw [List.drop_of_length_le (by have := HLEN.out; omega)] at hj
      simp at hj
    · refine ⟨_, if_neg c, fun j u hj => ?_⟩
      rw [List.getElem?_drop, ← HT.out, List.getElem?_take] at hj
      split at hj
      · have e : (⟨g, (i + 1) * 3, none⟩ : Addr).add j = ⟨g, (i + 1) * 3 + j, none⟩ := by unfold Addr.add; split <;> simp_all
        rw [e]
        show w.cell? _ = _
        rw [blk_cell HG.out, ← Array.getElem?_toList]; exact hj
      · cases hj
  rw [had]
  have HSRC := hid hsrc
  clear had hsrc
  have e9 : i + (n - (i + 1)) = n - 1 := by omega
  have E9 := hid e9
  obtain ⟨c1, hc1⟩ : ∃ c1, c1 = (cur.toList.take (i * 3) ++ (cellsOf l).drop ((i + 1) * 3) ++ cur.toList.drop (i * 3 + ((cellsOf l).drop ((i + 1) * 3)).length)).toArray := ⟨_, rfl⟩
  have C1 := hid hc1
  have hnl : ((cellsOf l).drop ((i + 1) * 3)).length = (n - (i + 1)) * 3 := by rw [List.length_drop, HLEN.out]; omega
  have NL := hid hnl
  have sz1 : c1.size = cap * 3 := by
    rw [hc1]
    simp only [List.size_toArray, List.length_append, List.length_take, List.length_drop, Array.length_toList, HS.out, HLEN.out]; omega
  have SZ1 := hid sz1
  have HG1 := hid (setRow_heap w.drew g cur c1 29 (0, 0) HG.out)
  clear e9 hc1 hnl sz1
  obtain ⟨c2, hc2⟩ : ∃ c2, c2 = (c1.toList.take ((n - 1) * 3) ++ stc noSt ++ c1.toList.drop ((n - 1) * 3 + 3)).toArray := ⟨_, rfl⟩
  have C2 := hid hc2
  have hcl := fun ty => run_clear1 g ((n - 1) * 3) (cap - (n - 1)) c1 HG1.out (by rw [SZ1.out]; omega) ty (n - (n - 1)) (by omega)
  rw [← hc2] at hcl
  clear hc2
  have t1 : (n : Int) - 1 ≤ (n : Int) := by omega
  have t2 : ((n - 1 : Nat) : Int) ≤ (n : Int) := by omega
  go_wp2_with (first | (at_builtin; refine wpList_room rfl (.tmp 22) (.tmp 25) 24 29 rfl i29 Try.underlying24 HI29.out g i cap cur HG.out rfl ad (n - (i + 1)) _ ((cellsOf l).drop ((i + 1) * 3)) rfl (by rw [HB29.out]; exact NL.out) HSRC.out (fun u hu => cells_one l u (List.mem_of_mem_drop hu)) (by omega) (by rw [HB29.out, NL.out, HS.out]; omega) ?_; rw [HB29.out, ← C1.out, E9.out]))
  go_ret
  refine ⟨_, rfl, ⟨by rw [cellsOf_length, List.length_eraseIdx, if_pos (by rw [← HN.out]; exact hi), ← HN.out], .inr ⟨g, cap, c2, rfl, HBG.out, setRow_heap _ g c1 _ 29 (0, 0) HG1.out, by omega, by unfold maxLen; omega, ?_, ?_⟩⟩, fun k h => h, ?_⟩
  · have := SZ1.out
    rw [C2.out]
    simp only [List.size_toArray, List.length_append, List.length_take, List.length_drop, Array.length_toList, stc, List.length_cons, List.length_nil]; omega
  · have h1 : c1.toList.take ((n - 1) * 3) = cellsOf (l.eraseIdx i) := by
      rw [C1.out, cells_erase l i (by rw [← HN.out]; exact hi), ← HT.out]
      have := NL.out
      have hs := HS.out
      rw [← HT.out] at this
      simp only [List.take_take]
      rw [List.take_append_of_le_length (by simp only [List.length_append, List.length_take, Array.length_toList, this]; omega)]
      rw [show min (i * 3) (n * 3) = i * 3 by omega]
      rw [List.take_of_length_le (by simp only [List.length_append, List.length_take, Array.length_toList, this]; omega)]
    rw [C2.out]
    show List.take ((n - 1) * 3) _ = _
    have hs := SZ1.out
    rw [List.append_assoc, List.take_append_of_le_length (by rw [List.length_take, Array.length_toList]; omega), List.take_take, Nat.min_self]
    exact h1
  · exact ⟨rfl, rfl, rfl, by simp [World.setRow], fun k _ hk => by
      have hne : k ≠ g := fun e => hk (by simp [Value.ownBlock, e])
      rw [setRow_other _ g k _ hne, setRow_other _ g k _ hne]; rfl⟩

end Go.Proofs.Ytnikkakeiajmgaa.Pa
