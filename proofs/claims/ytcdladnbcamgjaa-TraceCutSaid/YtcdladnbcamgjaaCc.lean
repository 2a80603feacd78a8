/- The walk of slices.Concat of two slices of bytes (slices.Grow within). -/
import Derived.Lib.AppendZerosOnto
import Derived.Lib.SliceRun
import Derived.Test.YtcdladnbcamgjaaBy
namespace Go.Proofs.Ytcdladnbcamgjaa.Cc
open Go Go.RowKit Go.Proofs.Ytcdladnbcamgjaa.K Go.Proofs.Ytcdladnbcamgjaa.M Go.Proofs.Ytcdladnbcamgjaa.O Go.Proofs.Ytcdladnbcamgjaa.By

/-- 'append([]byte(nil), make([]byte, k)...)'. -/
theorem wpList_zeros {W : World} {ops : Array Oper} {rest : List Oper} {o : Oper} {a : Act} {Q : Exit → Act → World → Prop} (hgd : o.guard = none) (s x : Operand)
    (ho : o.op = .call { callee := .builtin .append, args := #[s, x], argTypes := #[57, 3] })
    (i : TypeInfo) (hi : Try.prog.info? 5 = some i) (hz : i.zero = some (.int .u8 0)) (hsize : i.size = 1) (hby : i.bytes = 1)
    (hs : a.eval s = .slice none 0 0) (k : Nat) (hx : a.eval x = .int .i64 (k : Int)) (h0 : 0 < k) (hk : k ≤ 140737488355328)
    (h : ∀ cap w', w'.ownsRow W.heap.size 5 1 (.slice (some ⟨W.heap.size, 0, none⟩) 0 cap) 0 [] → k ≤ cap → cap ≤ 9223372036854775807 → Upd [] W w' → wpList Try.prog ops Q rest (a.put o.dst (.slice (some ⟨W.heap.size, 0, none⟩) k cap)) w') :
    wpList Try.prog ops Q (o :: rest) a W := by
  refine wpList_plain hgd fun K hK => ?_
  have hn : Builtin.nextslicecap (0 + k) 0 = k := by
    unfold Builtin.nextslicecap
    rw [if_pos (by omega)]; omega
  have hr := fun ty => Go.Lib.run_append_grow_zeros (P := Try.prog) W 57 3 ty 5 i (.int .u8 0) .i64 .i64 Try.underlying57 Try.underlying3 hi hz none 0 0 [] (by rw [hsize]; exact run_firstCells_none W.drew 1 0 0 0) k h0 (by omega) (by omega) (by omega) (by rw [hby]; omega) (by rw [hn, hby]; omega)
  unfold Oper.wp execOp
  simp only [ho, resolve, invoke, builtin, Sem.run_bind, Sem.run_pure, Result.andThen_ok, List.map_toArray, List.map_cons, List.map_nil, hs, hx, hr]
  refine hK _ _ ?_
  obtain ⟨cap, hc⟩ : ∃ cap, cap = grownCap W (0 + k) 0 5 := ⟨_, rfl⟩
  rw [← hc]
  have h1 : k ≤ cap := by rw [hc]; exact Nat.le_trans (by omega) (grownCap_ge W (0 + k) 0 5)
  have h2 : cap ≤ 9223372036854775807 := by
    rw [hc]; have := grownCap_le_maxLen W (0 + k) 0 5 (by unfold maxLen; omega); unfold maxLen at this; omega
  have h3 : (0 + k) = k := by omega
  rw [h3]
  refine h cap _ ?_ h1 h2 ((Upd.refl [] W).drew.alloc _)
  refine World.ownsRow_made (w := W.drew) _ cap (Nat.le_refl _) (by unfold maxLen; omega) ?_
  simp only [Array.size_append, Go.size_zeroCells, List.size_toArray, List.length_nil]
  show 0 + k * 1 + (cap - k) * 1 = cap * 1
  omega

theorem bys_one (l : List Nat) : ∀ u ∈ bys l, u.oneCell' = true := fun u hu => by
  obtain ⟨x, _, rfl⟩ := List.mem_map.1 hu; rfl
theorem cells_of {w : World} {g : Addr} {l : List Nat} (h : ByRow w (some g) l) : ∀ j u, (bys l)[j]? = some u → w.cell? (g.add j) = some u := fun j u hj => by
  have hl : j < l.length := by
    have := (List.getElem?_eq_some_iff.1 hj).1
    rwa [bys_length] at this
  rw [bys_get l j hl] at hj
  cases hj
  obtain ⟨x, e, hc⟩ := h j hl
  cases e
  exact hc

/-- 'append(v, bytes...)' onto a row that the call itself made. -/
theorem wpList_bytes {W : World} {ops : Array Oper} {rest : List Oper} {o : Oper} {a : Act} {Q : Exit → Act → World → Prop} (hgd : o.guard = none) (s x : Operand)
    (ho : o.op = .call { callee := .builtin .append, args := #[s, x], argTypes := #[57, 57] })
    (i : TypeInfo) (hi : Try.prog.info? 5 = some i) (hz : i.zero = some (.int .u8 0)) (hsize : i.size = 1) (hby : i.bytes = 1)
    (B : Nat) (v : Value) (n : Nat) (xs : List Nat) (hs : a.eval s = v) (hown : W.ownsRow B 5 1 v n (bys xs)) (ad : Option Addr) (m c : Nat) (ys : List Nat) (hx : a.eval x = .slice ad m c) (hr : ByRow W ad ys) (hl : ys.length = m)
    (hn : n + m ≤ 140737488355328) (had : m = 0 → ad = none → c = 0) (hB : B ≤ W.heap.size)
    (h : ∀ v' w', w'.ownsRow B 5 1 v' (n + m) (bys (xs ++ ys)) → Upd v.ownBlock.toList W w' → wpList Try.prog ops Q rest (a.put o.dst v') w') :
    wpList Try.prog ops Q (o :: rest) a W := by
  cases ad with
  | some g =>
    refine wpList_append_own_at (w := W) hgd s x 57 ho B 5 i _ 1 1 Try.underlying57 hi hz hsize hby rfl (by decide) v n (bys xs) hs hown g m c (bys ys) hx (by rw [bys_length]; omega) (cells_of hr) (bys_one _) (by unfold maxLen; omega) (by omega) hB ?_
    intro v' w' h1 h2 _ _
    refine h v' w' (by rw [bys_append]; exact h1) ((Upd.refl _ W).grown h2 (fun k hk => .inl (by simp [hk])))
  | none =>
    have hm : m = 0 := by
      rcases Nat.eq_zero_or_pos m with e | e
      · exact e
      · obtain ⟨y, e, _⟩ := hr 0 (by omega); cases e
    subst hm
    have hc : c = 0 := had rfl rfl
    subst hc
    have hys : ys = [] := List.eq_nil_of_length_eq_zero hl
    refine wpList_plain hgd fun K hK => ?_
    have hr := fun ty => Go.run_append_owned_none (P := Try.prog) (w := W) B 57 ty 5 i 1 Try.underlying57 hi v n (bys xs) hown
    unfold Oper.wp execOp
    simp only [ho, resolve, invoke, builtin, Sem.run_bind, Sem.run_pure, Result.andThen_ok, List.map_toArray, List.map_cons, List.map_nil, hs, hx, hr]
    refine hK _ _ (h v W ?_ (Upd.refl _ W))
    rw [hys, List.append_nil]; exact hown

set_option maxHeartbeats 4000000 in
set_option maxRecDepth 100000 in
theorem grow_any (k : Nat) (h0 : 0 < k) (hk : k ≤ 140737488355328) (w : World) :
    Calls Try.prog 74 #[.slice none 0 0, .int .i64 (k : Int)] w fun e w' => ∃ v, e = .returned v ∧ w'.ownsRow w.heap.size 5 1 v 0 [] ∧ Upd [] w w' := by
  obtain ⟨i5, hi5, hz5a, hz5b, hz5c⟩ := info_parts info5
  have h1 : ¬ (k : Int) < 0 := by omega
  have h2 : 0 < (k : Int) := by omega
  go_enter Try.func74, Try.ntmps74
  go_wp2_with (first | (at_builtin; refine wpList_zeros rfl (.tmp 20) (.tmp 21) rfl i5 hi5 hz5a hz5b hz5c rfl k rfl h0 hk ?_; intro cap w' ho hc hc2 hu; have HO := hid ho; have HU := hid hu; clear ho hu))
  go_ret
  exact ⟨_, rfl, HO.out, HU.out⟩

theorem own_not {w : World} {B n : Nat} {v : Value} {xs : List Value} {g : Nat} {cs : Array Value} {f : Nat × Nat} (h : w.ownsRow B 5 1 v n xs) (hg : w.heap[g]? = some (.cells cs 57 f)) : g ∉ v.ownBlock.toList := fun hm => by
  cases e : v.ownBlock with
  | none => rw [e] at hm; simp at hm
  | some k => rw [e] at hm; simp at hm; exact own_cells_ne h hg (by decide) k e hm.symm
set_option maxHeartbeats 4000000 in
set_option maxRecDepth 100000 in
theorem concat_two (a1 a2 : Option Addr) (n1 c1 n2 c2 : Nat) (xs ys : List Nat) (w : World) (hx : ByRow w a1 xs) (hxl : xs.length = n1) (hy : ByRow w a2 ys) (hyl : ys.length = n2) (h0 : 0 < n1) (hk : n1 + n2 ≤ 140737488355328) (hn0 : n2 = 0 → a2 = none → c2 = 0) :
    Calls Try.prog 54 #[.slice (some ⟨w.heap.size, 0, none⟩) 2 2] (w.alloc (.cells #[.slice a1 n1 c1, .slice a2 n2 c2] 57)) fun e w' => ∃ v, e = .returned v ∧ w'.ownsRow w.heap.size 5 1 v (n1 + n2) (bys (xs ++ ys)) ∧ Upd [] w w' := by
  obtain ⟨i5, hi5, hz5a, hz5b, hz5c⟩ := info_parts info5
  have HI5 := hid hi5
  have HA5 := hid hz5a
  have HB5 := hid hz5b
  have HC5 := hid hz5c
  have HX := hid hx
  have HXL := hid hxl
  have HY := hid hy
  have HYL := hid hyl
  clear hi5 hz5a hz5b hz5c hx hxl hy hyl
  obtain ⟨B, hB⟩ : ∃ B, B = w.heap.size := ⟨_, rfl⟩
  obtain ⟨W, hW⟩ : ∃ W, W = w.alloc (.cells #[.slice a1 n1 c1, .slice a2 n2 c2] 57) := ⟨_, rfl⟩
  have hbk : W.heap[B]? = some (.cells #[.slice a1 n1 c1, .slice a2 n2 c2] 57 (0, 0)) := by rw [hW, hB]; exact blk_new w _
  have hu0 : Upd [] w W := by rw [hW]; exact (Upd.refl [] w).alloc _
  have d0 : W.cell? ⟨B, 0, none⟩ = some (.slice a1 n1 c1) := (blk_cell hbk 0).trans rfl
  have d1 : W.cell? ⟨B, 1, none⟩ = some (.slice a2 n2 c2) := (blk_cell hbk 1).trans rfl
  have HBK := hid hbk
  have HU0 := hid hu0
  have HBB := hid hB
  rw [← hW, ← hB]
  clear hW hB hbk hu0
  go_enter Try.func54, Try.ntmps54
  go_wp2_with fail
  go_loopg [3, 11] 2 (fun d v3 v11 wr => ∃ (i s : Nat), v11 = .int .i64 (i : Int) ∧ v3 = .int .i64 (s : Int) ∧ i ≤ 2 ∧ Hid (i + d = 2) ∧ Hid (s = (if 0 < i then n1 else 0) + (if 1 < i then n2 else 0)) ∧ wr = W)
  case atStart => exact ⟨0, 0, rfl, rfl, by omega, by show _ = _; omega, rfl, rfl⟩
  case round =>
    obtain ⟨i, s, rfl, rfl, hi, Hi, HS, rfl⟩ := hrel
    have hs := HS.out
    match i, hi with
    | 0, _ =>
      obtain rfl : s = 0 := by simpa using hs
      clear hs
      go_wp2_with fail
      go_roundg 1
      case measure => have := Hi.out; omega
      case rel => exact ⟨1, n1, by go_num, by go_num, by omega, by show _ = _; omega, by show _ = _; simp, rfl⟩
    | 1, _ =>
      obtain rfl : s = n1 := by simpa using hs
      clear hs
      have b : ¬ ((s : Int) + (n2 : Int)) < 0 := by omega
      go_wp2_with fail
      go_roundg 0
      case measure => have := Hi.out; omega
      case rel => exact ⟨2, s + n2, by go_num, by go_num, by omega, by show _ = _; omega, by show _ = _; simp, rfl⟩
    | 2, _ =>
      obtain rfl : s = n1 + n2 := by simpa using hs
      clear hs
      go_wp2_with fail
      refine (grow_any (n1 + n2) (by omega) hk _).mono ?_
      rintro e w3 ⟨v3, rfl, ho, hu⟩
      have U3 := hid (HU0.out.trans hu (by simp))
      have HO3 : Hid (w3.ownsRow B 5 1 v3 0 []) := own_mono ho (by rw [HBB.out]; exact HU0.out.size)
      have HBK3 := hid (hu.blk HBK.out (by simp))
      clear ho hu
      go_wp2_with fail
      go_loopg [6, 27] 2 (fun d v6 v27 wr => ∃ (i : Nat), v27 = .int .i64 (i : Int) ∧ i ≤ 2 ∧ Hid (i + d = 2) ∧ Hid (wr.ownsRow B 5 1 v6 ((if 0 < i then n1 else 0) + (if 1 < i then n2 else 0)) (bys ((if 0 < i then xs else []) ++ (if 1 < i then ys else [])))) ∧ Hid (Upd [] w wr) ∧ Hid (wr.heap[B]? = some (.cells #[.slice a1 n1 c1, .slice a2 n2 c2] 57 (0, 0))))
      case atStart => exact ⟨0, rfl, by omega, by show _ = _; omega, HO3.out, U3.out, HBK3.out⟩
      case round =>
        clear HO3 U3 HBK3
        obtain ⟨j, rfl, hj, Hj, HO, HU, HK⟩ := hrel
        have ho := HO.out
        have d0 : wr.cell? ⟨B, 0, none⟩ = some (.slice a1 n1 c1) := (blk_cell HK.out 0).trans rfl
        have d1 : wr.cell? ⟨B, 1, none⟩ = some (.slice a2 n2 c2) := (blk_cell HK.out 1).trans rfl
        match j, hj with
        | 0, _ =>
          have HO : Hid (wr.ownsRow B 5 1 u6 0 (bys [])) := ho
          clear ho
          obtain ⟨g1, rfl, -⟩ := HX.out 0 (by rw [HXL.out]; exact h0)
          have HX2 : Hid (ByRow wr _ _) := HX.out.upd HU.out
          go_wp2_with (first | (at_builtin; refine wpList_bytes rfl (.tmp 31) (.tmp 32) rfl i5 HI5.out HA5.out HB5.out HC5.out B u6 0 [] rfl HO.out (some g1) n1 c1 xs rfl HX2.out HXL.out (by omega) (by omega) (by have := HU.out.size; have := HBB.out; omega) ?_; intro v6 w6 hw6 hu6; have HW6 := hid hw6; have HU6 := hid hu6; clear hw6 hu6))
          go_roundg 1
          case measure => have := Hj.out; omega
          case rel =>
            refine ⟨1, by go_num, by omega, by show _ = _; omega, ?_, HU.out.trans HU6.out (fun t ht => .inr (by rw [← HBB.out]; exact own_ge HO.out t (by simpa using ht))), HU6.out.blk HK.out (own_not HO.out HK.out)⟩
            have := HW6.out
            exact hid (by simpa using this)
        | 1, _ =>
          have HO : Hid (wr.ownsRow B 5 1 u6 n1 (bys xs)) := hid (by have h := ho; simpa using h)
          clear ho
          have HY2 : Hid (ByRow wr _ _) := HY.out.upd HU.out
          go_wp2_with (first | (at_builtin; refine wpList_bytes rfl (.tmp 31) (.tmp 32) rfl i5 HI5.out HA5.out HB5.out HC5.out B u6 n1 xs rfl HO.out a2 n2 c2 ys rfl HY2.out HYL.out hk hn0 (by have := HU.out.size; have := HBB.out; omega) ?_; intro v6 w6 hw6 hu6; have HW6 := hid hw6; have HU6 := hid hu6; clear hw6 hu6))
          go_roundg 0
          case measure => have := Hj.out; omega
          case rel =>
            refine ⟨2, by go_num, by omega, by show _ = _; omega, ?_, HU.out.trans HU6.out (fun t ht => .inr (by rw [← HBB.out]; exact own_ge HO.out t (by simpa using ht))), HU6.out.blk HK.out (own_not HO.out HK.out)⟩
            have := HW6.out
            exact hid (by simpa using this)
        | 2, _ =>
          have HO : Hid (wr.ownsRow B 5 1 u6 (n1 + n2) (bys (xs ++ ys))) := hid (by have h := ho; simpa using h)
          clear ho
          go_wp2_with fail
          go_ret
          exact ⟨_, rfl, HO.out, HU.out⟩

end Go.Proofs.Ytcdladnbcamgjaa.Cc
