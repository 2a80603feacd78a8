/- slices.Grow, slices.Concat at programs; explore.Check. -/
import Derived.Test.YtklacfdbpmkiiaaYd
import Derived.Lib.AppendZerosOnto
import Derived.Lib.SliceRun
import Derived.Laws.AppendOwnNone
namespace Go.Proofs.Ytklacfdbpmkiiaa.Y
open Go Go.RowKit Go.Proofs.Ytklacfdbpmkiiaa Go.Proofs.Ytklacfdbpmkiiaa.K Go.Proofs.Ytklacfdbpmkiiaa.M Go.Proofs.Ytklacfdbpmkiiaa.O Go.Proofs.Ytklacfdbpmkiiaa.R Go.Proofs.Ytklacfdbpmkiiaa.A
open Go.Proofs.Ytklacfdbpmkiiaa.X (D St Ps noD act wr dep may newC newH stp)

theorem info49 : (Try.prog.info? 49).map (fun i => (i.zero, i.size, i.bytes)) = some (some (.agg #[.int .i64 0, .int .i64 0, .int .i64 0]), 3, 24) := by kernel_rfl
/-- 'append([]Do(nil), make([]Do, k)...)'. -/
theorem wpList_zeros {W : World} {ops : Array Oper} {rest : List Oper} {o : Oper} {a : Act} {Q : Exit → Act → World → Prop} (hgd : o.guard = none) (s x : Operand)
    (ho : o.op = .call { callee := .builtin .append, args := #[s, x], argTypes := #[46, 3] })
    (i : TypeInfo) (hi : Try.prog.info? 49 = some i) (hz : i.zero = some (.agg #[.int .i64 0, .int .i64 0, .int .i64 0])) (hsize : i.size = 3) (hby : i.bytes = 24)
    (hs : a.eval s = .slice none 0 0) (k : Nat) (hx : a.eval x = .int .i64 (k : Int)) (h0 : 0 < k) (hk : k ≤ 100000)
    (h : ∀ cap w', w'.ownsRow W.heap.size 49 3 (.slice (some ⟨W.heap.size, 0, none⟩) 0 cap) 0 [] → k ≤ cap → cap ≤ 9223372036854775807 → Upd [] W w' → wpList Try.prog ops Q rest (a.put o.dst (.slice (some ⟨W.heap.size, 0, none⟩) k cap)) w') :
    wpList Try.prog ops Q (o :: rest) a W := by
  refine wpList_plain hgd fun K hK => ?_
  have hn : Builtin.nextslicecap (0 + k) 0 = k := by
    unfold Builtin.nextslicecap
    rw [if_pos (by omega)]; omega
  have hr := fun ty => Go.Lib.run_append_grow_zeros (P := Try.prog) W 46 3 ty 49 i (.agg #[.int .i64 0, .int .i64 0, .int .i64 0]) .i64 .i64 Try.underlying46 Try.underlying3 hi hz none 0 0 [] (by rw [hsize]; exact run_firstCells_none W.drew 3 0 0 0) k h0 (by omega) (by omega) (by omega) (by rw [hby]; omega) (by rw [hn, hby]; omega)
  unfold Oper.wp execOp
  simp only [ho, resolve, invoke, builtin, Sem.run_bind, Sem.run_pure, Result.andThen_ok, List.map_toArray, List.map_cons, List.map_nil, hs, hx, hr]
  refine hK _ _ ?_
  obtain ⟨cap, hc⟩ : ∃ cap, cap = grownCap W (0 + k) 0 49 := ⟨_, rfl⟩
  rw [← hc]
  have h1 : k ≤ cap := by rw [hc]; exact Nat.le_trans (by omega) (grownCap_ge W (0 + k) 0 49)
  have h2 : cap ≤ 9223372036854775807 := by
    rw [hc]; have := grownCap_le_maxLen W (0 + k) 0 49 (by unfold maxLen; omega); unfold maxLen at this; omega
  have h3 : (0 + k) = k := by omega
  rw [h3]
  refine h cap _ ?_ h1 h2 ((Upd.refl [] W).drew.alloc _)
  refine World.ownsRow_made (w := W.drew) _ cap (Nat.le_refl _) (by unfold maxLen; omega) ?_
  simp only [Array.size_append, Go.size_zeroCells, List.size_toArray, List.length_nil]
  show 0 + k * 3 + (cap - k) * 3 = cap * 3
  omega

set_option maxHeartbeats 4000000 in
set_option maxRecDepth 100000 in
theorem grow_any (k : Nat) (h0 : 0 < k) (hk : k ≤ 100000) (w : World) :
    Calls Try.prog 49 #[.slice none 0 0, .int .i64 (k : Int)] w fun e w' => ∃ v, e = .returned v ∧ w'.ownsRow w.heap.size 49 3 v 0 [] ∧ Upd [] w w' := by
  obtain ⟨i49, hi, hza, hzb, hzc⟩ := info_parts info49
  have h1 : ¬ (k : Int) < 0 := by omega
  have h2 : 0 < (k : Int) := by omega
  go_enter Try.func49, Try.ntmps49
  go_wp2_with (first | (at_builtin; refine wpList_zeros rfl (.tmp 20) (.tmp 21) rfl i49 hi hza hzb hzc rfl k rfl h0 hk ?_; intro cap w' ho hc hc2 hu; have HO := hid ho; have HU := hid hu; clear ho hu))
  go_ret
  exact ⟨_, rfl, HO.out, HU.out⟩
set_option maxHeartbeats 4000000 in
set_option maxRecDepth 100000 in
theorem grow_zero (w : World) :
    Calls Try.prog 49 #[.slice none 0 0, .int .i64 0] w fun e w' => ∃ v, e = .returned v ∧ w'.ownsRow w.heap.size 49 3 v 0 [] ∧ Upd [] w w' := by
  go_enter Try.func49, Try.ntmps49
  go_wp2_with fail
  go_ret
  exact ⟨_, rfl, World.ownsRow_nil _ _ _ _, Upd.refl _ _⟩


/-- A program's cells. -/
def dcl (d : D) : List Value := [nv d.kind, nv d.cell, nv d.val]
def dcells (l : List D) : List Value := l.flatMap dcl
theorem dcells_len (l : List D) : (dcells l).length = l.length * 3 := by
  unfold dcells
  induction l with
  | nil => rfl
  | cons a l ih => simp only [List.flatMap_cons, List.length_append, ih, dcl, List.length_cons, List.length_nil]; omega
theorem dcells_app (a b : List D) : dcells (a ++ b) = dcells a ++ dcells b := by unfold dcells; rw [List.flatMap_append]
theorem dcells_one (l : List D) : ∀ u ∈ dcells l, u.oneCell' = true := fun u hu => by
  obtain ⟨d, _, hd⟩ := List.mem_flatMap.1 hu
  simp [dcl, nv] at hd
  rcases hd with rfl | rfl | rfl <;> rfl
theorem dcells_get : ∀ (l : List D) (k : Nat), k < l.length → (dcells l)[k * 3]? = some (nv (l.getD k noD).kind) ∧ (dcells l)[k * 3 + 1]? = some (nv (l.getD k noD).cell) ∧ (dcells l)[k * 3 + 2]? = some (nv (l.getD k noD).val)
  | [], k, h => by simp at h
  | x :: l, 0, h => by simp [dcells, dcl]
  | x :: l, k + 1, h => by
    have := dcells_get l k (by simpa using h)
    rw [show (k + 1) * 3 = k * 3 + 1 + 1 + 1 by omega]
    simpa [dcells, dcl] using this
/-- A program in memory, cell by cell. -/
theorem DoAt.flat {w : World} {g : Nat} {l : List D} (h : DoAt w (some ⟨g, 0, none⟩) l) (j : Nat) (u : Value) (hu : (dcells l)[j]? = some u) : w.cell? ((⟨g, 0, none⟩ : Addr).add j) = some u := by
  rw [add0]
  have hj : j < (dcells l).length := (List.getElem?_eq_some_iff.1 hu).1
  rw [dcells_len] at hj
  obtain ⟨q1, q2, q3⟩ := dcells_get l (j / 3) (by omega)
  obtain ⟨g', cs, e, hb, e0, e1, e2⟩ := h (j / 3) (by omega)
  cases e
  rw [K.blk_cell hb]
  have hm : j % 3 = 0 ∨ j % 3 = 1 ∨ j % 3 = 2 := by omega
  rcases hm with hm | hm | hm
  · have ej : j / 3 * 3 = j := by omega
    rw [ej] at q1 e0; rw [e0, ← q1, hu]
  · have ej : j / 3 * 3 + 1 = j := by omega
    rw [ej] at q2 e1; rw [e1, ← q2, hu]
  · have ej : j / 3 * 3 + 2 = j := by omega
    rw [ej] at q3 e2; rw [e2, ← q3, hu]
/-- Empty programs are nil. -/
def PNil (w : World) (a : Option Addr) (P : Ps) : Prop := ∀ i, i < P.length → P.getD i [] = [] → ∃ r cs, a = some ⟨r, 0, none⟩ ∧ w.heap[r]? = some (.cells cs 46 (0, 0)) ∧ cs[i]? = some (.slice none 0 0)
theorem PNil.new {w w' : World} {a : Option Addr} {P : Ps} (h : PNil w a P) (u : Upd [] w w') : PNil w' a P := fun i hi he => by
  obtain ⟨r, cs, e, hb, h1⟩ := h i hi he
  exact ⟨r, cs, e, u.blk hb (by simp), h1⟩
theorem flat_take (R : Ps) (i : Nat) (h : i < R.length) : (R.take (i + 1)).flatten = (R.take i).flatten ++ R.getD i [] := by
  rw [List.take_succ_eq_append_getElem h, List.flatten_append, List.getD_eq_getElem?_getD, List.getElem?_eq_getElem h]; simp
theorem flat_len (P : Ps) : P.flatten.length = (P.map List.length).sum := by rw [List.length_flatten]
/-- A row's value. -/
theorem row_cell {w : World} {a : Option Addr} {P : Ps} (h : PAt w a P) (hn : PNil w a P) {i : Nat} (hi : i < P.length) :
    ∃ r b cap, a = some ⟨r, 0, none⟩ ∧ w.cell? ⟨r, i, none⟩ = some (.slice b (P.getD i []).length cap) ∧ DoAt w b (P.getD i []) ∧ ((P.getD i [] = [] ∧ b = none ∧ cap = 0) ∨ ∃ g, b = some ⟨g, 0, none⟩ ∧ 0 < (P.getD i []).length) := by
  obtain ⟨r, cs, b, cap, e, hb, h1, -, -, h4⟩ := h i hi
  refine ⟨r, b, cap, e, (K.blk_cell hb i).trans h1, h4, ?_⟩
  by_cases he : P.getD i [] = []
  · obtain ⟨r', cs', e', hb', h1'⟩ := hn i hi he
    rw [e] at e'; cases e'
    rw [hb] at hb'; cases hb'
    rw [h1] at h1'
    simp only [Option.some.injEq, Value.slice.injEq] at h1'
    exact .inl ⟨he, h1'.1, h1'.2.2⟩
  · have hp := List.length_pos_iff.2 he
    obtain ⟨g, ds, rfl, -⟩ := h4 0 hp
    exact .inr ⟨g, rfl, hp⟩
set_option maxHeartbeats 8000000 in
set_option maxRecDepth 100000 in
theorem concat_any (a : Option Addr) (cap : Nat) (P : Ps) (w : World) (hP : PAt w a P) (hN : PNil w a P) (_hc1 : P.length ≤ cap) (_hc2 : cap ≤ 9223372036854775807) (hR : P.length ≤ 4) (h12 : P.flatten.length ≤ 12) :
    Calls Try.prog 38 #[.slice a P.length cap] w fun e w' => ∃ v', e = .returned v' ∧ w'.ownsRow w.heap.size 49 3 v' P.flatten.length (dcells P.flatten) ∧ Upd [] w w' := by
  obtain ⟨i49, hi49, hz49a, hz49b, hz49c⟩ := info_parts info49
  have HI49 := hid hi49
  have HA49 := hid hz49a
  have HB49 := hid hz49b
  have HC49 := hid hz49c
  have FL := hid (show ∀ i, (P.take i).flatten.length ≤ 12 from fun i => by
    have e : P.flatten = (P.take i).flatten ++ (P.drop i).flatten := by rw [← List.flatten_append, List.take_append_drop]
    rw [e, List.length_append] at h12; omega)
  obtain ⟨C, hC⟩ : ∃ C, C = w.heap.size := ⟨_, rfl⟩
  have HCS := hid hC
  rw [← hC]
  have HP := hid hP
  have HNI := hid hN
  obtain ⟨n, hn⟩ : ∃ n, n = P.length := ⟨_, rfl⟩
  rw [← hn] at hR _hc1 ⊢
  have HN := hid hn
  clear hi49 hz49a hz49b hz49c hC hP hN hn h12
  go_enter Try.func38, Try.ntmps38
  go_wp2_with fail
  go_loopg [3, 11] n (fun d v3 v11 wr => ∃ (i : Nat), v11 = .int .i64 (i : Int) ∧ v3 = .int .i64 (((P.take i).flatten.length : Nat) : Int) ∧ i ≤ n ∧ Hid (i + d = n) ∧ wr = w)
  case atStart => exact ⟨0, rfl, rfl, by omega, hid (by omega), rfl⟩
  case round =>
    obtain ⟨i, rfl, rfl, hin, Hi, hw⟩ := hrel
    have hw' := hw.symm
    subst hw'
    clear hw
    have hf := FL.out i
    obtain ⟨s, hs⟩ : ∃ s, s = (P.take i).flatten.length := ⟨_, rfl⟩
    rw [← hs] at hf ⊢
    have HS := hid hs
    clear hs
    by_cases hi : i < n
    · have hi' : (i : Int) < (n : Int) := by omega
      have hix : i < P.length := by rw [← HN.out]; exact hi
      obtain ⟨r, b, capb, rfl, c0, -, -⟩ := row_cell HP.out HNI.out hix
      have HF := flat_take P i hix
      have hf1 := FL.out (i + 1)
      rw [HF, List.length_append, ← HS.out] at hf1
      have HF' := hid HF
      obtain ⟨m, hm⟩ : ∃ m, m = (P.getD i []).length := ⟨_, rfl⟩
      rw [← hm] at c0 hf1
      have HM := hid hm
      clear HF hm
      have b' : ¬ ((s : Int) + (m : Int)) < 0 := by omega
      go_wp2_with fail
      go_roundg (n - (i + 1))
      case measure => have := Hi.out; omega
      case rel =>
        refine ⟨i + 1, by go_num, ?_, by omega, hid (by omega), rfl⟩
        rw [HF'.out, List.length_append, ← HS.out, ← HM.out]
        go_num
    · have hi' : ¬ (i : Int) < (n : Int) := by omega
      have ei : i = n := by omega
      clear hi
      have GR := hid (show Calls Try.prog 49 #[.slice none 0 0, .int .i64 (s : Int)] w fun e w' => ∃ v, e = .returned v ∧ w'.ownsRow w.heap.size 49 3 v 0 [] ∧ Upd [] w w' by
        rcases Nat.eq_zero_or_pos s with e | e
        · subst e; exact grow_zero w
        · exact grow_any s e (by omega) w)
      rw [← HCS.out] at GR
      go_wp2_with fail
      refine GR.out.mono ?_
      rintro e w3 ⟨v3, rfl, ho, hu⟩
      have U3 := hid hu
      have O3 := hid ho
      clear ho hu GR HS hf
      go_wp2_with fail
      go_loopg [6, 27] n (fun d v6 v27 wz => ∃ (i : Nat), v27 = .int .i64 (i : Int) ∧ i ≤ n ∧ Hid (i + d = n) ∧ Hid (wz.ownsRow C 49 3 v6 (P.take i).flatten.length (dcells (P.take i).flatten)) ∧ Hid (Upd [] w wz))
      case atStart => exact ⟨0, rfl, by omega, hid (by omega), O3, U3⟩
      case round =>
        clear U3 O3 ei hi' Hi hin
        obtain ⟨j, rfl, hjn, Hj, HO, HU⟩ := hrel
        by_cases hj : j < n
        · have hj' : (j : Int) < (n : Int) := by omega
          have hjx : j < P.length := by rw [← HN.out]; exact hj
          obtain ⟨r, b, ki, rfl, c0, so, hsh⟩ := row_cell (HP.out.new HU.out) (HNI.out.new HU.out) hjx
          have HF := flat_take P j hjx
          have hfj := FL.out j
          have hf1 := FL.out (j + 1)
          obtain ⟨x, hx⟩ : ∃ x : List D, x = P.getD j [] := ⟨_, rfl⟩
          rw [← hx] at c0 HF so hsh
          obtain ⟨F, hF⟩ : ∃ F, F = (P.take j).flatten := ⟨_, rfl⟩
          rw [← hF] at HF HO hfj
          rw [HF, List.length_append] at hf1
          have HF' := hid HF
          have SO := hid so
          have CS := hid (show C ≤ wr.heap.size by rw [HCS.out]; exact HU.out.size)
          clear hx HF hF so
          rcases hsh with ⟨rfl, rfl, rfl⟩ | ⟨gx, rfl, hpos⟩
          · have c0' : wr.cell? ⟨r, j, none⟩ = some (.slice none 0 0) := c0
            clear c0
            go_wp2_with (at_builtin; refine wpList_append_own_none rfl (.tmp 31) (.tmp 32) 46 rfl C 49 i49 3 Try.underlying46 HI49.out u6 F.length (dcells F) rfl HO.out rfl ?_)
            go_roundg (n - (j + 1))
            case measure => have := Hj.out; omega
            case rel =>
              refine ⟨j + 1, by go_num, by omega, hid (by omega), hid ?_, HU⟩
              rw [HF'.out, List.append_nil]; exact HO.out
          · obtain ⟨m, hm⟩ : ∃ m, m = x.length := ⟨_, rfl⟩
            rw [← hm] at c0 hf1
            have HM := hid hm
            clear hm hpos
            go_wp2_with (first | (at_builtin; refine wpList_append_own_at (w := wr) rfl (.tmp 31) (.tmp 32) 46 rfl C 49 i49 _ 3 24 Try.underlying46 HI49.out HA49.out HB49.out HC49.out rfl (by decide) u6 F.length (dcells F) rfl HO.out ⟨gx, 0, none⟩ m ki (dcells x) rfl (by rw [dcells_len, ← HM.out]) SO.out.flat (dcells_one x) (by unfold maxLen; omega) (by omega) CS.out ?_; intro v6 w6 h1 h2 _ _; have O6 := hid h1; have U6 := hid ((Upd.refl u6.ownBlock.toList wr).grown h2 (fun k hk => Or.inl (by simp [hk]))); clear h1 h2))
            go_roundg (n - (j + 1))
            case measure => have := Hj.out; omega
            case rel =>
              refine ⟨j + 1, by go_num, by omega, hid (by omega), hid ?_, hid (HU.out.trans U6.out (fun t ht => .inr (by rw [← HCS.out]; exact own_ge HO.out t (by simpa using ht))))⟩
              rw [HF'.out, List.length_append, dcells_app, ← HM.out]
              exact O6.out
        · have ej : j = n := by omega
          have hj' : ¬ (j : Int) < (n : Int) := by omega
          have hO := HO.out
          rw [ej, HN.out, List.take_length] at hO
          have HO2 := hid hO
          clear hO HO
          go_wp2_with fail
          go_ret
          exact ⟨u6, rfl, by first | exact HO2.out | (rw [← flat_len]; exact HO2.out), HU.out⟩
set_option maxHeartbeats 8000000 in
set_option maxRecDepth 100000 in
theorem check_any (a : Option Addr) (cap : Nat) (P : Ps) (w : World) (hP : PAt w a P) (hN : PNil w a P) (hc1 : P.length ≤ cap) (hc2 : cap ≤ 9223372036854775807) (ok : Ok P) :
    Calls Try.prog 21 #[.slice a P.length cap] w fun e w' => e = .returned (.int .i64 0) ∧ Upd [] w w' := by
  have hfl := flat_len P
  have CC := concat_any a cap P w hP hN hc1 hc2 ok.few (by rw [hfl]; exact ok.len)
  have hl12 : P.flatten.length ≤ 12 := by rw [hfl]; exact ok.len
  obtain ⟨q, hq⟩ : ∃ q, q = P.flatten.length := ⟨_, rfl⟩
  rw [← hq] at CC hl12
  have h4 := ok.few
  have HP := hid hP
  have HNI := hid hN
  have HOK := hid ok
  obtain ⟨n, hn⟩ : ∃ n, n = P.length := ⟨_, rfl⟩
  rw [← hn] at h4 hc1 CC ⊢
  have HN := hid hn
  have h4' : ¬ (4 : Int) < (n : Int) := by omega
  have h12' : ¬ (12 : Int) < (q : Int) := by omega
  clear hP hN hn ok hq hfl
  go_enter Try.func21, Try.ntmps21
  go_wp2_with fail
  refine CC.mono ?_
  rintro e w1 ⟨v1, rfl, ho, hu⟩
  obtain ⟨a1, c1, e1, -, -, -⟩ := own_view ho
  subst e1
  have U1 := hid hu
  clear ho hu CC
  go_wp2_with fail
  go_loopg [16] n (fun d v16 wr => ∃ (i : Nat), v16 = .int .i64 (i : Int) ∧ i ≤ n ∧ Hid (i + d = n) ∧ Hid (Upd [] w wr))
  case atStart => exact ⟨0, rfl, by omega, hid (by omega), U1⟩
  case round =>
    clear U1
    obtain ⟨i, rfl, hin, Hi, HU⟩ := hrel
    by_cases hi : i < n
    · have hi' : (i : Int) < (n : Int) := by omega
      have hix : i < P.length := by rw [← HN.out]; exact hi
      obtain ⟨r, b, capb, rfl, c0, hd, -⟩ := row_cell (HP.out.new HU.out) (HNI.out.new HU.out) hix
      have HD := hid hd
      obtain ⟨m, hm⟩ : ∃ m, m = (P.getD i []).length := ⟨_, rfl⟩
      rw [← hm] at c0
      have hm12 : m ≤ 12 := by rw [hm]; exact len_le P HOK.out i
      have HM := hid hm
      clear hm hd
      go_wp2_with fail
      go_loopg [22] m (fun d v22 wq => ∃ (k : Nat), v22 = .int .i64 (k : Int) ∧ k ≤ m ∧ Hid (k + d = m) ∧ Hid (Upd [] wr wq))
      case atStart => exact ⟨0, rfl, by omega, hid (by omega), Upd.refl _ _⟩
      case round =>
        obtain ⟨k, rfl, hkm, Hk, HUk⟩ := hrel
        by_cases hk : k < m
        · have hk' : (k : Int) < (m : Int) := by omega
          obtain ⟨g, ds, rfl, hb, e0, e1, e2⟩ := HD.out k (by rw [← HM.out]; exact hk)
          have hok := HOK.out.get i k
          obtain ⟨d, hd⟩ : ∃ d, d = (P.getD i []).getD k noD := ⟨_, rfl⟩
          rw [← hd] at e0 e1 e2 hok
          obtain ⟨kd, c, v⟩ := d
          simp only at e0 e1 e2 hok
          have hb' := HUk.out.blk hb (by simp)
          have f0 : wr.cell? ⟨g, k * 3, none⟩ = some (.int .i64 (kd : Int)) := (K.blk_cell hb' _).trans e0
          have f1 : wr.cell? ⟨g, k * 3 + 1, none⟩ = some (.int .i64 (c : Int)) := (K.blk_cell hb' _).trans e1
          have f2 : wr.cell? ⟨g, k * 3 + 2, none⟩ = some (.int .i64 (v : Int)) := (K.blk_cell hb' _).trans e2
          have g1 : ¬ (kd : Int) < 1 := by omega
          have g2 : ¬ (4 : Int) < (kd : Int) := by omega
          have g3 : ¬ (c : Int) < 0 := by omega
          have g4 : ¬ (4 : Int) ≤ (c : Int) := by omega
          have g5 : ¬ (v : Int) < -1000 := by omega
          have g6 : ¬ (1000 : Int) < (v : Int) := by omega
          clear hb hb' e0 e1 e2 hd hok
          go_wp2_with fail
          go_roundg (m - (k + 1))
          case measure => have := Hk.out; omega
          case rel => exact ⟨k + 1, by go_num, by omega, by show _ = _; omega, HUk.out.alloc _⟩
        · obtain rfl : m = k := by omega
          go_wp2_with fail
          go_roundg (n - (i + 1))
          case measure => have := Hi.out; omega
          case rel => exact ⟨i + 1, by go_num, by omega, hid (by omega), HU.out.trans HUk.out (by simp)⟩
    · obtain rfl : n = i := by omega
      go_wp2_with fail
      go_ret
      exact ⟨rfl, HU.out⟩
end Go.Proofs.Ytklacfdbpmkiiaa.Y
