/- slices.Delete of one packet, at a row that the call itself made. -/
import Derived.Test.YtgkjkgooonicbaaLr
import Derived.Deep.RegionWith
import Derived.BigRegion
import Derived.BigQuiet
import Derived.Deep.QuietTactic
import Derived.StillTailTactics
namespace Go.Proofs.Ytgkjkgooonicbaa.Lm
open Go Go.RowKit Go.Proofs.Ytgkjkgooonicbaa.K Go.Proofs.Ytgkjkgooonicbaa.M Go.Proofs.Ytgkjkgooonicbaa.O

theorem region_tail {P : Program} {id : Nat} {Q : Exit → Act → World → Prop} {a : Act} {w : World} {l : List Oper} (n : Nat) (hm : P.follows .mixedOrders = true) (hB : Region.lexTailB .any l.toArray n = true)
    (h : wpStill P l.toArray w.drew (fun a' => wpList P l.toArray Q (l.drop n) a' w.drew) (l.take n) a) : (Code.region id l.toArray true).wp P Q a w := wp_region_still_tail n hm hB h

/-- 'append(s, x...)' where there is room, in place. -/
theorem wpList_room {P : Program} {W : World} {ops : Array Oper} {rest : List Oper} {o : Oper} {a : Act} {Q : Exit → Act → World → Prop} (hgd : o.guard = none) (s x : Operand) (t e : TypeId)
    (ho : o.op = .call { callee := .builtin .append, args := #[s, x], argTypes := #[t, t] }) (i : TypeInfo) (ht : P.underlying t = some (.slice e)) (hi : P.info? e = some i)
    (g sLen sCap : Nat) (cur : Array Value) (hg : W.heap[g]? = some (.cells cur e (0, 0))) (hs : a.eval s = .slice (some ⟨g, 0, none⟩) sLen sCap)
    (ad : Addr) (m c : Nat) (news : List Value) (hx : a.eval x = .slice (some ad) m c) (hl : news.length = m * i.size) (hnews : ∀ j u, news[j]? = some u → W.cell? (ad.add j) = some u) (h1 : ∀ u ∈ news, u.oneCell' = true)
    (hroom : sLen + m ≤ sCap) (hfit : sLen * i.size + news.length ≤ cur.size)
    (h : wpList P ops Q rest (a.put o.dst (.slice (some ⟨g, 0, none⟩) (sLen + m) sCap)) (W.setRow g (cur.toList.take (sLen * i.size) ++ news ++ cur.toList.drop (sLen * i.size + news.length)).toArray)) :
    wpList P ops Q (o :: rest) a W := by
  refine wpList_plain hgd fun K hK => ?_
  have hr := fun ty => run_append_room (P := P) (w := W) t ty e i ht hi g sLen sCap cur hg ad m c news hl hnews h1 hroom hfit
  unfold Oper.wp execOp
  simp only [ho, resolve, invoke, builtin, Sem.run_bind, Sem.run_pure, Result.andThen_ok, List.map_toArray, List.map_cons, List.map_nil, hs, hx, hr]
  exact hK _ _ h
def zeroPk : List Value := [.int .u32 0, .int .u32 0, .bool false, .int .i64 0, .slice none 0 0]
theorem zeroPk_one : ∀ u ∈ zeroPk, u.oneCell' = true := fun u hu => by
  simp [zeroPk] at hu
  rcases hu with rfl | rfl | rfl | rfl <;> rfl
/-- 'clear' of one way. -/
theorem run_clear1 {W : World} (g k c : Nat) (cur : Array Value) (hg : W.heap[g]? = some (.cells cur 34 (0, 0))) (hfit : k + 5 ≤ cur.size) (ty : TypeId) (m : Nat) (hm : m = 1) :
    (Builtin.clear_ #[30] ty #[.slice (some ⟨g, k, none⟩) m c]).run Try.prog W = .ok (.tuple #[]) (W.setRow g (cur.toList.take k ++ zeroPk ++ cur.toList.drop (k + 5)).toArray) := by
  subst hm
  have hst := run_storeCells_at Try.prog g k 34 (zeroPk) 0 cur W hg (by simpa [zeroPk] using hfit) zeroPk_one
  simp only [Nat.add_zero] at hst
  have hz : (zeroValue 34).run Try.prog W = .ok (.agg #[.int .u32 0, .int .u32 0, .bool false, .int .i64 0, .slice none 0 0]) W := Try.zeroValue34 W
  have hc : (Builtin.zeroCells (Value.agg #[.int .u32 0, .int .u32 0, .bool false, .int .i64 0, .slice none 0 0]).cells 1).toList = zeroPk := by simp [Builtin.zeroCells, Value.cells, zeroPk, List.range_succ]
  simp only [zeroPk, List.length_cons, List.length_nil] at hst hc
  simp [Builtin.clear_, run_underlying Try.underlying30, hz, hc, hst, zeroPk]

set_option maxHeartbeats 4000000 in
set_option maxRecDepth 100000 in
theorem delete_any (B n i : Nat) (v : Value) (cs : List Value) (hcl : cs.length = n * 5) (hc1 : ∀ u ∈ cs, u.oneCell' = true) (w : World) (hv : w.ownsRow B 34 5 v n cs) (hi : i < n) (h60 : n ≤ 100000) :
    Calls Try.prog 44 #[v, .int .i64 (i : Int), .int .i64 ((i : Int) + 1)] w fun e w' => ∃ v', e = .returned v' ∧ w'.ownsRow B 34 5 v' (n - 1) (cs.take (i * 5) ++ cs.drop ((i + 1) * 5)) ∧ (∀ k, v'.ownBlock = some k → v.ownBlock = some k) ∧ Upd v.ownBlock.toList w w' := by
  obtain ⟨i34, hi34, hz34a, hz34b, hz34c⟩ := info_parts info34
  have HI34 := hid hi34
  have HA34 := hid hz34a
  have HB34 := hid hz34b
  clear hi34 hz34a hz34b hz34c
  rcases hv with ⟨hlen, ⟨_, h0⟩ | ⟨g, cap, cur, rfl, hbg, hg, hnc, hcm, hcs, htake⟩⟩
  · omega
  unfold maxLen at hcm
  have HG := hid hg
  have HT := hid htake
  have HS := hid hcs
  have HBG := hid hbg
  have HLEN := hid hlen
  clear hg htake hcs hbg hlen
  have HCL := hid hcl
  have HC1 := hid hc1
  clear hcl hc1
  have s0 : 0 ≤ (i : Int) + 1 := by omega
  have s1 : (i : Int) + 1 ≤ (n : Int) := by omega
  have s2 : (n : Int) ≤ (cap : Int) := by omega
  have s3 : ((i : Int) == (i : Int) + 1) = false := by rw [beq_eq_false_iff_ne]; omega
  have s4 : (i : Int) ≤ (n : Int) := by omega
  have s5 : (i : Int) ≤ (cap : Int) := by omega
  go_enter Try.func44, Try.ntmps44
  go_wp2_with fail
  refine region_tail 6 (by kernel_rfl) (by kernel_rfl) ?_
  simp only [List.take_succ_cons, List.take_zero, List.drop_succ_cons, List.drop_zero]
  repeat still_step
  refine wpStill_nil ?_
  obtain ⟨ad, had, hsrc⟩ : ∃ ad, (if cap = i + 1 then some (⟨g, 0, none⟩ : Addr) else some ⟨g, (i + 1) * 5, none⟩) = some ad ∧ ∀ j u, (cs.drop ((i + 1) * 5))[j]? = some u → w.drew.cell? (ad.add j) = some u := by
    by_cases c : cap = i + 1
    · refine ⟨_, if_pos c, fun j u hj => ?_⟩
      rw [List.drop_of_length_le (by have := HLEN.out; omega)] at hj
      simp at hj
    · refine ⟨_, if_neg c, fun j u hj => ?_⟩
      rw [List.getElem?_drop, ← HT.out, List.getElem?_take] at hj
      split at hj
      · have e : (⟨g, (i + 1) * 5, none⟩ : Addr).add j = ⟨g, (i + 1) * 5 + j, none⟩ := by unfold Addr.add; split <;> simp_all
        rw [e]
        show w.cell? _ = _
        rw [blk_cell HG.out, ← Array.getElem?_toList]; exact hj
      · cases hj
  rw [had]
  have HSRC := hid hsrc
  clear had hsrc
  have e9 : i + (n - (i + 1)) = n - 1 := by omega
  have E9 := hid e9
  obtain ⟨c1, hc1⟩ : ∃ c1, c1 = (cur.toList.take (i * 5) ++ cs.drop ((i + 1) * 5) ++ cur.toList.drop (i * 5 + (cs.drop ((i + 1) * 5)).length)).toArray := ⟨_, rfl⟩
  have C1 := hid hc1
  have hnl : (cs.drop ((i + 1) * 5)).length = (n - (i + 1)) * 5 := by rw [List.length_drop, HLEN.out]; omega
  have NL := hid hnl
  have sz1 : c1.size = cap * 5 := by
    rw [hc1]
    simp only [List.size_toArray, List.length_append, List.length_take, List.length_drop, Array.length_toList, HS.out, HLEN.out]; omega
  have SZ1 := hid sz1
  have HG1 := hid (setRow_heap w.drew g cur c1 34 (0, 0) HG.out)
  clear e9 hc1 hnl sz1
  obtain ⟨c2, hc2⟩ : ∃ c2, c2 = (c1.toList.take ((n - 1) * 5) ++ zeroPk ++ c1.toList.drop ((n - 1) * 5 + 5)).toArray := ⟨_, rfl⟩
  have C2 := hid hc2
  have hcl := fun ty => run_clear1 g ((n - 1) * 5) (cap - (n - 1)) c1 HG1.out (by rw [SZ1.out]; omega) ty (n - (n - 1)) (by omega)
  rw [← hc2] at hcl
  clear hc2
  have t1 : (n : Int) - 1 ≤ (n : Int) := by omega
  have t2 : ((n - 1 : Nat) : Int) ≤ (n : Int) := by omega
  go_wp2_with (first | (at_builtin; refine wpList_room rfl (.tmp 22) (.tmp 25) 30 34 rfl i34 Try.underlying30 HI34.out g i cap cur HG.out rfl ad (n - (i + 1)) _ (cs.drop ((i + 1) * 5)) rfl (by rw [HB34.out]; exact NL.out) HSRC.out (fun u hu => HC1.out u (List.mem_of_mem_drop hu)) (by omega) (by rw [HB34.out, NL.out, HS.out]; omega) ?_; rw [HB34.out, ← C1.out, E9.out]))
  go_ret
  refine ⟨_, rfl, ⟨by simp only [List.length_append, List.length_take, List.length_drop, HCL.out]; omega, .inr ⟨g, cap, c2, rfl, HBG.out, setRow_heap _ g c1 _ 34 (0, 0) HG1.out, by omega, by unfold maxLen; omega, ?_, ?_⟩⟩, (fun _ hk => hk), ?_⟩
  · have := SZ1.out
    rw [C2.out]
    simp only [List.size_toArray, List.length_append, List.length_take, List.length_drop, Array.length_toList, zeroPk, List.length_cons, List.length_nil]; omega
  · have h1 : c1.toList.take ((n - 1) * 5) = (cs.take (i * 5) ++ cs.drop ((i + 1) * 5)) := by
      rw [C1.out, ← HT.out]
      have := NL.out
      have hs := HS.out
      rw [← HT.out] at this
      simp only [List.take_take]
      rw [List.take_append_of_le_length (by simp only [List.length_append, List.length_take, Array.length_toList, this]; omega)]
      rw [show min (i * 5) (n * 5) = i * 5 by omega]
      rw [List.take_of_length_le (by simp only [List.length_append, List.length_take, Array.length_toList, this]; omega)]
    rw [C2.out]
    show List.take ((n - 1) * 5) _ = _
    have hs := SZ1.out
    rw [List.append_assoc, List.take_append_of_le_length (by rw [List.length_take, Array.length_toList]; omega), List.take_take, Nat.min_self]
    exact h1
  · exact ⟨rfl, rfl, rfl, by simp [World.setRow], fun k _ hk => by
      have hne : k ≠ g := fun e => hk (by simp [Value.ownBlock, e])
      rw [setRow_other _ g k _ hne, setRow_other _ g k _ hne]; rfl⟩

theorem pkCells_erase : ∀ (ps : List Pk) (vs : List Value) (i : Nat), vs.length = ps.length → i < ps.length → pkCells (ps.eraseIdx i) (vs.eraseIdx i) = (pkCells ps vs).take (i * 5) ++ (pkCells ps vs).drop ((i + 1) * 5)
  | p :: ps, v :: vs, 0, _, _ => by
    have hl : (pkVals p v).length = 5 := rfl
    simp only [List.eraseIdx_cons_zero, pkCells, Nat.zero_mul, List.take_zero, List.nil_append, Nat.zero_add, Nat.one_mul]
    rw [List.drop_append_of_le_length (by omega), List.drop_of_length_le (by omega)]
    rfl
  | p :: ps, v :: vs, i + 1, h, hi => by
    have ih := pkCells_erase ps vs i (by simpa using h) (by simpa using hi)
    have hl : (pkVals p v).length = 5 := rfl
    simp only [List.eraseIdx_cons_succ, pkCells, ih]
    rw [show (pkVals p v ++ pkCells ps vs).take ((i + 1) * 5) = (pkVals p v ++ pkCells ps vs).take (5 + i * 5) by rw [show (i + 1) * 5 = 5 + i * 5 by omega]]
    have t1 : (pkVals p v ++ pkCells ps vs).take (5 + i * 5) = pkVals p v ++ (pkCells ps vs).take (i * 5) := by rw [← hl]; exact List.take_length_add_append _
    have t2 : (pkVals p v ++ pkCells ps vs).drop (5 + (i + 1) * 5) = (pkCells ps vs).drop ((i + 1) * 5) := by rw [← hl]; exact List.drop_length_add_append _
    rw [show 5 + (i + 1) * 5 = 5 + (i + 1) * 5 from rfl] at t2
    have t3 : (pkVals p v ++ pkCells ps vs).drop ((i + 1 + 1) * 5) = (pkCells ps vs).drop ((i + 1) * 5) := by rw [show (i + 1 + 1) * 5 = 5 + (i + 1) * 5 by omega]; exact t2
    rw [t1, t3, List.append_assoc]
  | [], [], _, _, h => by simp at h
  | [], _ :: _, _, h, _ => by simp at h
  | _ :: _, [], _, h, _ => by simp at h
theorem Bodies.erase {w : World} : ∀ {vs : List Value} {bs : List (List Nat)} (_ : Bodies w vs bs) (i : Nat), Bodies w (vs.eraseIdx i) (bs.eraseIdx i) := fun {vs bs} h i => by
  by_cases hi : i < bs.length
  · have e1 : vs.eraseIdx i = vs.take i ++ vs.drop (i + 1) := List.eraseIdx_eq_take_drop_succ _ _
    have e2 : bs.eraseIdx i = bs.take i ++ bs.drop (i + 1) := List.eraseIdx_eq_take_drop_succ _ _
    rw [e1, e2]
    refine Bodies.append ⟨by simp [h.1], fun j hj => ?_⟩ (h.drop (i + 1))
    simp only [List.length_take] at hj
    have := h.2 j (by omega)
    simp only [List.getD_eq_getElem?_getD] at this ⊢
    rw [List.getElem?_take, List.getElem?_take, if_pos (by omega), if_pos (by omega)]
    exact this
  · have hv := h.1
    rw [List.eraseIdx_of_length_le (l := vs) (by omega), List.eraseIdx_of_length_le (l := bs) (by omega)]
    exact h
theorem map_erase {α β : Type} (f : α → β) : ∀ (l : List α) (i : Nat), (l.eraseIdx i).map f = (l.map f).eraseIdx i
  | [], _ => rfl
  | _ :: _, 0 => rfl
  | x :: l, i + 1 => by simp [map_erase f l i]
theorem delete_pk {B i : Nat} {v : Value} {ps : List Pk} {w : World} (h : IsPks w B v ps) (hi : i < ps.length) (hn : ps.length ≤ 100000) :
    Calls Try.prog 44 #[v, .int .i64 (i : Int), .int .i64 ((i : Int) + 1)] w fun e w' => ∃ v', e = .returned v' ∧ IsPks w' B v' (ps.eraseIdx i) ∧ (∀ k, v'.ownBlock = some k → v.ownBlock = some k) ∧ Upd v.ownBlock.toList w w' := by
  obtain ⟨us, h1, h2⟩ := h
  have hl : us.length = ps.length := IsPks.len h2 h1
  have nb : NoB w v.ownBlock.toList := fun s hs hx => by
    obtain ⟨cur, hb⟩ := own_block h1 s (by simpa using hs)
    obtain ⟨cur', f', hx⟩ := hx
    rw [hb] at hx
    simp at hx
  refine (delete_any B ps.length i v (pkCells ps us) (pkCells_len ps us hl) (pkCells_one ps us (Bodies.ones h2)) w h1 hi hn).mono ?_
  rintro e w' ⟨v', rfl, k1, k2, k3⟩
  refine ⟨v', rfl, ⟨us.eraseIdx i, ?_, ?_⟩, k2, k3⟩
  · rw [pkCells_erase ps us i hl hi, List.length_eraseIdx, if_pos hi]; exact k1
  · have := (h2.upd k3 nb).erase i
    rw [map_erase]
    exact this
end Go.Proofs.Ytgkjkgooonicbaa.Lm
