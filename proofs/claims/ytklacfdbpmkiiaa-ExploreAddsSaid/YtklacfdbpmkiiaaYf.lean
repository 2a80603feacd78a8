/- What only draws and makes blocks; slices.Concat and slices.Compare at numbers; the order of states. -/
import Derived.Test.YtklacfdbpmkiiaaYe
import Derived.Laws.IdiomCopy
namespace Go.Proofs.Ytklacfdbpmkiiaa.Y
open Go Go.RowKit Go.Sort Go.Proofs.Ytklacfdbpmkiiaa Go.Proofs.Ytklacfdbpmkiiaa.K Go.Proofs.Ytklacfdbpmkiiaa.M Go.Proofs.Ytklacfdbpmkiiaa.O Go.Proofs.Ytklacfdbpmkiiaa.R Go.Proofs.Ytklacfdbpmkiiaa.A
open Go.Proofs.Ytklacfdbpmkiiaa.X (D St Ps noD act wr dep may newC newH stp)

/-- Nothing but draws and new blocks. -/
structure Gro (w w' : World) : Prop where
  upd : Upd [] w w'
  drawn : w.drawn ≤ w'.drawn
theorem Gro.refl (w : World) : Gro w w := ⟨Upd.refl _ _, Nat.le_refl _⟩
theorem Gro.trans {a b c : World} (h : Gro a b) (k : Gro b c) : Gro a c := ⟨h.upd.trans k.upd (by simp), Nat.le_trans h.drawn k.drawn⟩
theorem Gro.alloc {a b : World} (h : Gro a b) (o : Obj) : Gro a (b.alloc o) := ⟨h.upd.alloc o, h.drawn⟩
theorem Gro.drew {a b : World} (h : Gro a b) : Gro a b.drew := ⟨h.upd.drew, Nat.le_succ_of_le h.drawn⟩
theorem Gro.drewN {a b : World} (h : Gro a b) (n : Nat) : Gro a (b.drewN n) := ⟨h.upd.drewN n, Nat.le_trans h.drawn (Nat.le_add_right _ _)⟩
theorem Gro.own {a b c : World} {v : Value} (h : Gro a b) (g : b.grownBy c v.ownBlock) (hd : b.drawn ≤ c.drawn) (hv : ∀ k, v.ownBlock = some k → a.heap.size ≤ k) : Gro a c :=
  ⟨h.upd.grown g (fun k hk => .inr (hv k hk)), Nat.le_trans h.drawn hd⟩
theorem Gro.grow {w w' : World} (h : Gro w w') : ∃ q os', w' = Sort.grow (w.drewN q) os' := by
  obtain ⟨⟨h1, h2, h3, h4, h5⟩, h6⟩ := h
  obtain ⟨q, hq⟩ := Nat.exists_eq_add_of_le h6
  refine ⟨q, w'.heap.extract w.heap.size w'.heap.size, ?_⟩
  obtain ⟨heap', tape', drawn', os', out'⟩ := w'
  obtain ⟨heap, tape, drawn, os, out⟩ := w
  simp only at h1 h2 h3 h4 h5 hq
  subst h1 h2 h3
  have e : heap' = heap ++ heap'.extract heap.size heap'.size := by
    apply Array.ext_getElem?
    intro k
    by_cases hk : k < heap.size
    · rw [Array.getElem?_append_left hk]; exact h5 k hk (by simp)
    · rw [Array.getElem?_append_right (Nat.le_of_not_lt hk), Array.getElem?_extract]
      by_cases hk2 : k < heap'.size
      · rw [if_pos (by omega), show heap.size + (k - heap.size) = k by omega]
      · rw [if_neg (by omega), Array.getElem?_eq_none (Nat.le_of_not_lt hk2)]
  unfold Sort.grow World.drewN
  simp only [World.mk.injEq]
  exact ⟨e, by first | rfl | trivial, hq, by first | rfl | trivial, by first | rfl | trivial⟩
theorem run_append_d {P : Program} (w : World) (base : Nat) (t ty e : TypeId) (i : TypeInfo) (z : Value) (size bytes : Nat) (ht : P.underlying t = some (.slice e)) (hi : P.info? e = some i) (hz : i.zero = some z)
    (hsize : i.size = size) (hby : i.bytes = bytes) (hzs : z.cells.size = size) (hsz : 0 < size)
    (v : Value) (n : Nat) (xs : List Value) (hown : w.ownsRow base e size v n xs)
    (a : Addr) (m c : Nat) (news : List Value) (hl : news.length = m * size) (hnews : ∀ j u, news[j]? = some u → w.cell? (a.add j) = some u) (h1 : ∀ u ∈ news, u.oneCell' = true)
    (h63 : n + m ≤ maxLen) (hbytes : (n + m) * bytes ≤ 140737488355328) (hbase : base ≤ w.heap.size) :
    ∃ v' w', (Builtin.append_ #[t, t] ty #[v, .slice (some a) m c]).run P w = .ok v' w' ∧ w'.ownsRow base e size v' (n + m) (xs ++ news) ∧ w.grownBy w' v.ownBlock ∧
      (v' = .slice none 0 0 ↔ v = .slice none 0 0 ∧ m = 0) ∧ (v'.ownBlock = v.ownBlock ∨ v'.ownBlock = some w.heap.size) ∧ w.drawn ≤ w'.drawn := by
  subst hsize
  subst hby
  have hsmall : n + m ≤ 9223372036854775807 := by simp only [maxLen] at h63; omega
  have hlen : (xs ++ news).length = (n + m) * i.size := by rw [List.length_append, hown.1, hl, Nat.add_mul]
  -- what the growing arm leaves, whatever was there before
  have grown : ∀ (old : Nat), old < n + m → ∀ (row : Option Nat),
      (w.drew.alloc (.cells (xs.toArray ++ news.toArray ++ Builtin.zeroCells z.cells (grownCap w (n + m) old e - (n + m))) e)).ownsRow base e i.size
        (.slice (some ⟨w.heap.size, 0, none⟩) (n + m) (grownCap w (n + m) old e)) (n + m) (xs ++ news) ∧
      w.grownBy (w.drew.alloc (.cells (xs.toArray ++ news.toArray ++ Builtin.zeroCells z.cells (grownCap w (n + m) old e - (n + m))) e)) row := by
    intro old ho row
    have hge := grownCap_ge w (n + m) old e
    have hcm : grownCap w (n + m) old e ≤ maxLen := grownCap_le_maxLen w (n + m) old e h63
    refine ⟨⟨hlen, .inr ⟨w.heap.size, _, _, rfl, hbase, heap_alloc_new w.drew _, hge, hcm, ?_, ?_⟩⟩, ⟨rfl, rfl, rfl, by simp, fun k hk _ => Below.heap_alloc _ _ _ hk⟩⟩
    · simp only [Array.size_append, List.size_toArray, size_zeroCells, hzs, hown.1, hl, ← Nat.add_mul]
      congr 1
      omega
    · simp only [Array.toList_append, List.append_assoc]
      rw [← List.append_assoc, ← hlen]
      exact List.take_left
  rcases hown.2 with ⟨rfl, rfl⟩ | ⟨g, cap, cur, rfl, hbg, hg, hnc, hcm, hcs, htake⟩
  · have hx : xs = [] := List.eq_nil_of_length_eq_zero (by simpa using hown.1)
    subst hx
    by_cases hm : m = 0
    · subst hm
      have hn : news = [] := List.eq_nil_of_length_eq_zero (by simpa using hl)
      subst hn
      refine ⟨.slice none 0 0, w, ?_, World.ownsRow_nil w base e i.size, ⟨rfl, rfl, rfl, Nat.le_refl _, fun _ _ _ => rfl⟩, by simp, Or.inl rfl, Nat.le_refl _⟩
      simp [Builtin.append_, run_underlying ht, sizeOf, typeInfo, hi, Builtin.lenOf, Builtin.firstCells, loadCells, loadCellsFrom]
    · have hr := run_append_nil (P := P) w t ty e i z ht hi hz a m c news hl hnews (by omega) (by omega) (by have hb := hbytes; simp only [Nat.zero_add] at hb; omega)
      have hgr := grown 0 (by omega) (Value.ownBlock (.slice none 0 0))
      simp only [Nat.zero_add, List.nil_append, Array.empty_append] at hgr ⊢
      exact ⟨_, _, hr, hgr.1, hgr.2, by simp [hm], Or.inr rfl, Nat.le_succ _⟩
  · by_cases hroom : n + m ≤ cap
    · have hfit : n * i.size + news.length ≤ cur.size := by rw [hl, hcs, ← Nat.add_mul]; exact Nat.mul_le_mul_right _ hroom
      have hr := run_append_room (P := P) w t ty e i ht hi g n cap cur hg a m c news hl hnews h1 hroom hfit
      refine ⟨_, _, hr, ⟨hlen, .inr ⟨g, cap, _, rfl, hbg, setRow_heap w g cur _ e _ hg, hroom, hcm, ?_, ?_⟩⟩, ⟨rfl, rfl, rfl, by simp, fun k _ hk => setRow_other w g k _ (fun e => hk (by simp [Value.ownBlock, e]))⟩, by simp, Or.inl rfl, Nat.le_refl _⟩
      · simp only [List.size_toArray, List.length_append, List.length_take, List.length_drop, Array.length_toList]
        omega
      · rw [htake, ← hlen]
        exact List.take_left
    · have holds : ∀ j u, xs[j]? = some u → w.cell? ((⟨g, 0, none⟩ : Addr).add j) = some u := hown.cells (g := g) rfl
      have hr := run_append_grow (P := P) w t ty e i z ht hi hz ⟨g, 0, none⟩ n cap xs hown.1 holds a m c news hl hnews (by omega) (by omega) (growslice_fits (by omega) hbytes)
      have hgr := grown cap (by omega) (Value.ownBlock (.slice (some ⟨g, 0, none⟩) n cap))
      exact ⟨_, _, hr, hgr.1, hgr.2, by simp, Or.inr rfl, Nat.le_succ _⟩

theorem wpList_append_d {P : Program} (w : World) {ops : Array Oper} {rest : List Oper} {o : Oper} {a : Act} {Q : Exit → Act → World → Prop} (hgd : o.guard = none) (s x : Operand) (t : TypeId)
    (ho : o.op = .call { callee := .builtin .append, args := #[s, x], argTypes := #[t, t] })
    (base : Nat) (e : TypeId) (i : TypeInfo) (z : Value) (size bytes : Nat) (ht : P.underlying t = some (.slice e)) (hi : P.info? e = some i) (hz : i.zero = some z)
    (hsize : i.size = size) (hby : i.bytes = bytes) (hzs : z.cells.size = size) (hsz : 0 < size)
    (v : Value) (n : Nat) (xs : List Value) (hs : a.eval s = v) (hown : w.ownsRow base e size v n xs)
    (ad : Addr) (m c : Nat) (news : List Value) (hx : a.eval x = .slice (some ad) m c) (hl : news.length = m * size) (hnews : ∀ j u, news[j]? = some u → w.cell? (ad.add j) = some u) (h1 : ∀ u ∈ news, u.oneCell' = true)
    (h63 : n + m ≤ maxLen) (hbytes : (n + m) * bytes ≤ 140737488355328) (hbase : base ≤ w.heap.size)
    (h : ∀ v' w', w'.ownsRow base e size v' (n + m) (xs ++ news) → w.grownBy w' v.ownBlock → (v' = .slice none 0 0 ↔ v = .slice none 0 0 ∧ m = 0) → (v'.ownBlock = v.ownBlock ∨ v'.ownBlock = some w.heap.size) → w.drawn ≤ w'.drawn → wpList P ops Q rest (a.put o.dst v') w') :
    wpList P ops Q (o :: rest) a w := by
  refine wpList_plain hgd fun K hK => ?_
  obtain ⟨v', w', hr, h2, h3, h4, h5, h6⟩ := run_append_d (P := P) w base t o.type e i z size bytes ht hi hz hsize hby hzs hsz v n xs hown ad m c news hl hnews h1 h63 hbytes hbase
  unfold Oper.wp execOp
  simp only [ho, resolve, invoke, builtin, Sem.run_bind, Sem.run_pure, Result.andThen_ok, List.map_toArray, List.map_cons, List.map_nil, hs, hx, hr]
  exact hK _ _ (h v' w' h2 h3 h4 h5 h6)

/-- 'append([]int(nil), make([]int, k)...)'. -/
theorem wpList_zerosI {W : World} {ops : Array Oper} {rest : List Oper} {o : Oper} {a : Act} {Q : Exit → Act → World → Prop} (hgd : o.guard = none) (s x : Operand)
    (ho : o.op = .call { callee := .builtin .append, args := #[s, x], argTypes := #[22, 3] })
    (i : TypeInfo) (hi : Try.prog.info? 3 = some i) (hz : i.zero = some (.int .i64 0)) (hsize : i.size = 1) (hby : i.bytes = 8)
    (hs : a.eval s = .slice none 0 0) (k : Nat) (hx : a.eval x = .int .i64 (k : Int)) (h0 : 0 < k) (hk : k ≤ 100000)
    (h : ∀ cap w', w'.ownsRow W.heap.size 3 1 (.slice (some ⟨W.heap.size, 0, none⟩) 0 cap) 0 [] → k ≤ cap → cap ≤ 9223372036854775807 → Gro W w' → wpList Try.prog ops Q rest (a.put o.dst (.slice (some ⟨W.heap.size, 0, none⟩) k cap)) w') :
    wpList Try.prog ops Q (o :: rest) a W := by
  refine wpList_plain hgd fun K hK => ?_
  have hn : Builtin.nextslicecap (0 + k) 0 = k := by
    unfold Builtin.nextslicecap
    rw [if_pos (by omega)]; omega
  have hr := fun ty => Go.Lib.run_append_grow_zeros (P := Try.prog) W 22 3 ty 3 i (.int .i64 0) .i64 .i64 Try.underlying22 Try.underlying3 hi hz none 0 0 [] (by rw [hsize]; exact run_firstCells_none W.drew 1 0 0 0) k h0 (by omega) (by omega) (by omega) (by rw [hby]; omega) (by rw [hn, hby]; omega)
  unfold Oper.wp execOp
  simp only [ho, resolve, invoke, builtin, Sem.run_bind, Sem.run_pure, Result.andThen_ok, List.map_toArray, List.map_cons, List.map_nil, hs, hx, hr]
  refine hK _ _ ?_
  obtain ⟨cap, hc⟩ : ∃ cap, cap = grownCap W (0 + k) 0 3 := ⟨_, rfl⟩
  rw [← hc]
  have h1 : k ≤ cap := by rw [hc]; exact Nat.le_trans (by omega) (grownCap_ge W (0 + k) 0 3)
  have h2 : cap ≤ 9223372036854775807 := by
    rw [hc]; have := grownCap_le_maxLen W (0 + k) 0 3 (by unfold maxLen; omega); unfold maxLen at this; omega
  have h3 : (0 + k) = k := by omega
  rw [h3]
  refine h cap _ ?_ h1 h2 ((Gro.refl W).drew.alloc _)
  refine World.ownsRow_made (w := W.drew) _ cap (Nat.le_refl _) (by unfold maxLen; omega) ?_
  simp only [Array.size_append, Go.size_zeroCells, List.size_toArray, List.length_nil]
  show 0 + k * 1 + (cap - k) * 1 = cap * 1
  omega

set_option maxHeartbeats 4000000 in
set_option maxRecDepth 100000 in
theorem growI_any (k : Nat) (h0 : 0 < k) (hk : k ≤ 100000) (w : World) :
    Calls Try.prog 52 #[.slice none 0 0, .int .i64 (k : Int)] w fun e w' => ∃ v, e = .returned v ∧ w'.ownsRow w.heap.size 3 1 v 0 [] ∧ Gro w w' := by
  obtain ⟨i3, hi, hza, hzb, hzc⟩ := info_parts info3
  have h1 : ¬ (k : Int) < 0 := by omega
  have h2 : 0 < (k : Int) := by omega
  go_enter Try.func52, Try.ntmps52
  go_wp2_with (first | (at_builtin; refine wpList_zerosI rfl (.tmp 20) (.tmp 21) rfl i3 hi hza hzb hzc rfl k rfl h0 hk ?_; intro cap w' ho hc hc2 hu; have HO := hid ho; have HU := hid hu; clear ho hu))
  go_ret
  exact ⟨_, rfl, HO.out, HU.out⟩
set_option maxHeartbeats 4000000 in
set_option maxRecDepth 100000 in
theorem growI_zero (w : World) :
    Calls Try.prog 52 #[.slice none 0 0, .int .i64 0] w fun e w' => ∃ v, e = .returned v ∧ w'.ownsRow w.heap.size 3 1 v 0 [] ∧ Gro w w' := by
  go_enter Try.func52, Try.ntmps52
  go_wp2_with fail
  go_ret
  exact ⟨_, rfl, World.ownsRow_nil _ _ _ _, Gro.refl _⟩



theorem addr_add (p : Addr) (j : Nat) : p.add j = p.add j := rfl
set_option maxHeartbeats 8000000 in
set_option maxRecDepth 100000 in
theorem concat3 (r : Nat) (ad : Nat → Addr) (f : Nat → Nat) (W : World) (hr : Arr W r 22 3 (fun i => .slice (some (ad i)) 4 4)) (hc : ∀ i, i < 3 → ∀ j, j < 4 → W.cell? ((ad i).add j) = some (nv (f (4 * i + j)))) :
    Calls Try.prog 44 #[.slice (some ⟨r, 0, none⟩) 3 3] W fun e w' => ∃ v', e = .returned v' ∧ w'.ownsRow W.heap.size 3 1 v' 12 ((List.range 12).map (fun k => nv (f k))) ∧ Gro W w' := by
  obtain ⟨i3, hi3, hz3a, hz3b, hz3c⟩ := info_parts info3
  have HI3 := hid hi3
  have HA3 := hid hz3a
  have HB3 := hid hz3b
  have HC3 := hid hz3c
  obtain ⟨C, hC⟩ : ∃ C, C = W.heap.size := ⟨_, rfl⟩
  have HCS := hid hC
  rw [← hC]
  have HR := hid hr
  have HC := hid hc
  clear hi3 hz3a hz3b hz3c hC hr hc
  go_enter Try.func44, Try.ntmps44
  go_wp2_with fail
  go_loopg [3, 11] 3 (fun d v3 v11 wr => ∃ (i : Nat), v11 = .int .i64 (i : Int) ∧ v3 = .int .i64 ((i * 4 : Nat) : Int) ∧ i ≤ 3 ∧ Hid (i + d = 3) ∧ wr = W)
  case atStart => exact ⟨0, rfl, rfl, by omega, hid (by omega), rfl⟩
  case round =>
    obtain ⟨i, rfl, rfl, hin, Hi, hw⟩ := hrel
    have hw' := hw.symm
    subst hw'
    clear hw
    by_cases hi : i < 3
    · have hi' : (i : Int) < 3 := by omega
      have c0 := HR.out.val hi (v := .slice (some (ad i)) 4 4) rfl
      obtain ⟨s, hs⟩ : ∃ s, s = i * 4 := ⟨_, rfl⟩
      rw [← hs]
      have hs12 : s ≤ 12 := by omega
      have HS := hid hs
      clear hs
      have b' : ¬ ((s : Int) + 4) < 0 := by omega
      go_wp2_with fail
      go_roundg (3 - (i + 1))
      case measure => have := Hi.out; omega
      case rel => exact ⟨i + 1, by go_num, by rw [show (i + 1) * 4 = s + 4 by have := HS.out; omega]; go_num, by omega, by show _ = _; omega, rfl⟩
    · obtain rfl : i = 3 := by omega
      have GR := hid (growI_any 12 (by omega) (by omega) W)
      rw [← HCS.out] at GR
      go_wp2_with fail
      refine GR.out.mono ?_
      rintro e w3 ⟨v3, rfl, ho, hu⟩
      have U3 := hid hu
      have O3 := hid ho
      clear ho hu GR
      go_wp2_with fail
      go_loopg [6, 27] 3 (fun d v6 v27 wz => ∃ (i : Nat), v27 = .int .i64 (i : Int) ∧ i ≤ 3 ∧ Hid (i + d = 3) ∧ Hid (wz.ownsRow C 3 1 v6 (i * 4) ((List.range (i * 4)).map (fun k => nv (f k)))) ∧ Hid (Gro W wz))
      case atStart => exact ⟨0, rfl, by omega, hid (by omega), O3, U3⟩
      case round =>
        clear U3 O3
        obtain ⟨j, rfl, hjn, Hj, HO, HU⟩ := hrel
        by_cases hj : j < 3
        · have hj' : (j : Int) < 3 := by omega
          have c0 := (HR.out.upd HU.out.upd (by simp)).val hj (v := .slice (some (ad j)) 4 4) rfl
          have CS := hid (show C ≤ wr.heap.size by rw [HCS.out]; exact HU.out.upd.size)
          have hcells := hid (show ∀ q uu, ([nv (f (4 * j)), nv (f (4 * j + 1)), nv (f (4 * j + 2)), nv (f (4 * j + 3))] : List Value)[q]? = some uu → wr.cell? ((ad j).add q) = some uu from fun q uu hq => by
            have hq4 : q < 4 := (List.getElem?_eq_some_iff.1 hq).1
            have h := HU.out.upd.cell (HC.out j hj q hq4) (by simp)
            rw [h]
            rcases (show q = 0 ∨ q = 1 ∨ q = 2 ∨ q = 3 by omega) with rfl | rfl | rfl | rfl <;> simpa using hq)
          go_wp2_with (at_builtin; refine wpList_append_d wr rfl (.tmp 31) (.tmp 32) 22 rfl C 3 i3 _ 1 8 Try.underlying22 HI3.out HA3.out HB3.out HC3.out rfl (by decide) u6 (j * 4) _ rfl HO.out (ad j) 4 4 [nv (f (4 * j)), nv (f (4 * j + 1)), nv (f (4 * j + 2)), nv (f (4 * j + 3))] rfl rfl hcells.out (by intro uu hu; simp [nv] at hu; rcases hu with rfl | rfl | rfl | rfl <;> rfl) (by unfold maxLen; omega) (by omega) CS.out ?_; intro v6 w6 h1 h2 _ _ h5; have O6 := hid h1; have U6 := hid (HU.out.own h2 h5 (fun k hk => by rw [← HCS.out]; exact own_ge HO.out k hk)); clear h1 h2 h5)
          go_roundg (3 - (j + 1))
          case measure => have := Hj.out; omega
          case rel =>
            refine ⟨j + 1, by go_num, by omega, by show _ = _; omega, hid ?_, U6⟩
            have e : (List.range ((j + 1) * 4)).map (fun k => nv (f k)) = (List.range (j * 4)).map (fun k => nv (f k)) ++ [nv (f (4 * j)), nv (f (4 * j + 1)), nv (f (4 * j + 2)), nv (f (4 * j + 3))] := by
              rw [show (j + 1) * 4 = j * 4 + 1 + 1 + 1 + 1 by omega, List.range_succ, List.range_succ, List.range_succ, List.range_succ, Nat.mul_comm 4 j]; simp
            rw [e, show (j + 1) * 4 = j * 4 + 4 by omega]
            exact O6.out
        · obtain rfl : j = 3 := by omega
          have HO2 := hid HO.out
          clear HO
          go_wp2_with fail
          go_ret
          exact ⟨u6, rfl, HO2.out, HU.out⟩

/-- Which row of numbers comes first. -/
def cmpL : List Nat → List Nat → Int
  | [], [] => 0
  | [], _ :: _ => -1
  | _ :: _, [] => 1
  | x :: xs, y :: ys => if x < y then -1 else if y < x then 1 else cmpL xs ys
theorem cmpL_self : ∀ x, cmpL x x = 0
  | [] => rfl
  | x :: xs => by show (if x < x then _ else if x < x then _ else cmpL xs xs) = 0; rw [if_neg (by omega), if_neg (by omega), cmpL_self xs]
theorem cmpL_trans : ∀ x y z : List Nat, x.length = y.length → y.length = z.length → cmpL x y < 0 → cmpL y z < 0 → cmpL x z < 0
  | [], [], z, _, _, h, _ => by simp [cmpL] at h
  | x :: xs, y :: ys, z :: zs, h1, h2, a, b => by
    simp only [cmpL] at a b ⊢
    by_cases p : x < y
    · by_cases q : y < z
      · rw [if_pos (by omega)]; decide
      · rw [if_neg q] at b
        by_cases r : z < y
        · rw [if_pos r] at b; omega
        · rw [if_pos (by omega)]; decide
    · rw [if_neg p] at a
      by_cases p' : y < x
      · rw [if_pos p'] at a; omega
      · rw [if_neg p'] at a
        obtain rfl : x = y := by omega
        by_cases q : x < z
        · rw [if_pos q]; decide
        · rw [if_neg q] at b ⊢
          by_cases r : z < x
          · rw [if_pos r] at b; omega
          · rw [if_neg r] at b ⊢
            exact cmpL_trans xs ys zs (by simpa using h1) (by simpa using h2) a b
theorem cmpL_ntrans : ∀ x y z : List Nat, x.length = y.length → y.length = z.length → 0 ≤ cmpL x y → 0 ≤ cmpL y z → 0 ≤ cmpL x z
  | [], [], [], _, _, h, _ => by simp [cmpL]
  | x :: xs, y :: ys, z :: zs, h1, h2, a, b => by
    simp only [cmpL] at a b ⊢
    by_cases p : x < y
    · rw [if_pos p] at a; omega
    · rw [if_neg p] at a
      by_cases q : y < z
      · rw [if_pos q] at b; omega
      · rw [if_neg q] at b
        rw [if_neg (by omega)]
        by_cases r : z < x
        · rw [if_pos r]; decide
        · rw [if_neg r]
          rw [if_neg (by omega)] at a
          rw [if_neg (by omega)] at b
          exact cmpL_ntrans xs ys zs (by simpa using h1) (by simpa using h2) a b
theorem cmpL_take {xs ys : List Nat} {i : Nat} (hi : i < xs.length) (hl : xs.length = ys.length) (h : xs.take i = ys.take i) : cmpL xs ys = cmpL (xs.drop i) (ys.drop i) := by
  induction i generalizing xs ys with
  | zero => rfl
  | succ i ih =>
    match xs, ys with
    | x :: xs, y :: ys =>
      simp only [List.take_succ_cons, List.cons.injEq] at h
      obtain ⟨rfl, h⟩ := h
      show (if x < x then _ else if x < x then _ else cmpL xs ys) = _
      rw [if_neg (by omega), if_neg (by omega)]
      exact ih (by simpa using hi) (by simpa using hl) h
    | [], _ => simp at hi
    | _ :: _, [] => simp at hl
set_option maxHeartbeats 8000000 in
set_option maxRecDepth 100000 in
theorem compare_any (a b : Nat) (ca cb : Nat) (f g : Nat → Nat) (W : World) (ha : ∀ k, k < 12 → W.cell? ⟨a, k, none⟩ = some (nv (f k))) (hb : ∀ k, k < 12 → W.cell? ⟨b, k, none⟩ = some (nv (g k))) :
    Calls Try.prog 45 #[.slice (some ⟨a, 0, none⟩) 12 ca, .slice (some ⟨b, 0, none⟩) 12 cb] W fun e w' => e = .returned (.int .i64 (cmpL ((List.range 12).map f) ((List.range 12).map g))) ∧ w' = W := by
  have HA := hid ha
  have HB := hid hb
  clear ha hb
  go_enter Try.func45, Try.ntmps45
  go_wp2_with fail
  go_loopg [11] 12 (fun d v11 wr => ∃ (i : Nat), v11 = .int .i64 (i : Int) ∧ i ≤ 12 ∧ Hid (i + d = 12) ∧ Hid (((List.range 12).map f).take i = ((List.range 12).map g).take i) ∧ wr = W)
  case atStart => exact ⟨0, rfl, by omega, hid (by omega), rfl, rfl⟩
  case round =>
    obtain ⟨i, rfl, hin, Hi, HT, hw⟩ := hrel
    have hw' := hw.symm
    subst hw'
    clear hw
    by_cases hi : i < 12
    · have hi' : (i : Int) < 12 := by omega
      have c0 := HA.out i hi
      have c1 := HB.out i hi
      obtain ⟨x, hx⟩ : ∃ x, x = f i := ⟨_, rfl⟩
      obtain ⟨y, hy⟩ : ∃ y, y = g i := ⟨_, rfl⟩
      rw [← hx] at c0
      rw [← hy] at c1
      have HX := hid hx
      have HY := hid hy
      unfold nv at c0 c1
      have nle : ¬ (12 : Int) ≤ (i : Int) := by omega
      have hcut := hid (cmpL_take (xs := (List.range 12).map f) (ys := (List.range 12).map g) (by simpa using hi) (by simp) HT.out)
      have hd : ∀ h : Nat → Nat, ((List.range 12).map h).drop i = h i :: ((List.range 12).map h).drop (i + 1) := fun h => by
        rw [List.drop_eq_getElem_cons (by simpa using hi)]; simp
      have HD := hid hd
      clear hx hy hd
      go_wp2_with fail
      refine (Try.cmp_Compare_int (x : Int) (y : Int) _).mono ?_
      rintro e w' ⟨rfl, rfl⟩
      obtain ⟨q, hq⟩ : ∃ q, q = Lib.compareInt (x : Int) (y : Int) := ⟨_, rfl⟩
      have HQ := hid hq
      rw [← hq]
      clear hq
      by_cases hq0 : q = 0
      · subst hq0
        go_wp2_with fail
        go_roundg (12 - (i + 1))
        case measure => have := Hi.out; omega
        case rel =>
          refine ⟨i + 1, by go_num, by omega, by show _ = _; omega, hid ?_, rfl⟩
          have hxy : x = y := by
            have h := HQ.out
            unfold Lib.compareInt at h
            by_cases h1 : (x : Int) < (y : Int)
            · simp [h1] at h
            · by_cases h2 : (y : Int) < (x : Int)
              · simp [h1, h2] at h
              · omega
          rw [List.take_succ_eq_append_getElem (by simpa using hi), List.take_succ_eq_append_getElem (by simpa using hi), HT.out]
          simp [← HX.out, ← HY.out, hxy]
      · go_wp2_with fail
        go_ret
        refine ⟨?_, rfl⟩
        have h := HQ.out
        have e : q = cmpL ((List.range 12).map f) ((List.range 12).map g) := by
          rw [hcut.out, HD.out f, HD.out g, ← HX.out, ← HY.out]
          show q = (if x < y then _ else if y < x then _ else _)
          unfold Lib.compareInt at h
          by_cases h1 : x < y
          · rw [if_pos h1]; simp [h1] at h; exact h
          · by_cases h2 : y < x
            · rw [if_neg h1, if_pos h2]; simp [h1, h2] at h; exact h
            · simp [h1, h2] at h; exact absurd h hq0
        rw [← e]; rfl
    · obtain rfl : i = 12 := by omega
      go_wp2_with fail
      go_ret
      refine ⟨?_, rfl⟩
      have h := HT.out
      rw [List.take_of_length_le (by simp), List.take_of_length_le (by simp)] at h
      rw [h, cmpL_self]; rfl
end Go.Proofs.Ytklacfdbpmkiiaa.Y
