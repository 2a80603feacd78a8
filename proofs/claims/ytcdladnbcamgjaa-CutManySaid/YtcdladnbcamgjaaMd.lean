/- The walk of cut.All: it finds all cuts. -/
import Derived.Test.YtcdladnbcamgjaaMa
import Derived.Test.YtcdladnbcamgjaaJ
namespace Go.Proofs.Ytcdladnbcamgjaa.CuM
open Go Go.RowKit Go.Proofs.Ytcdladnbcamgjaa Go.Proofs.Ytcdladnbcamgjaa.K Go.Proofs.Ytcdladnbcamgjaa.M Go.Proofs.Ytcdladnbcamgjaa.O Go.Proofs.Ytcdladnbcamgjaa.MS Go.Proofs.Ytcdladnbcamgjaa.Ck
open Go.Proofs.Ytcdladnbcamgjaa.Ev Go.Proofs.Ytcdladnbcamgjaa.CL Go.Proofs.Ytcdladnbcamgjaa.CW Go.Proofs.Ytcdladnbcamgjaa.Th Go.Proofs.Ytcdladnbcamgjaa.Cu Go.Proofs.Ytcdladnbcamgjaa.CuT Go.Proofs.Ytcdladnbcamgjaa.Cv

def rows8 (row : List (List Int)) : List Value := row.flatMap cells8
theorem cells8_len (c : List Int) : (cells8 c).length = 8 := rfl
theorem rows8_len : ∀ row, (rows8 row).length = row.length * 8
  | [] => rfl
  | c :: r => by show (cells8 c ++ rows8 r).length = _; rw [List.length_append, rows8_len r, cells8_len, List.length_cons]; omega
theorem rows8_snoc (row : List (List Int)) (c : List Int) : rows8 (row ++ [c]) = rows8 row ++ cells8 c := by simp [rows8, List.flatMap_append]
theorem cells8_get (c : List Int) (p : Nat) (hp : p < 8) : (cells8 c)[p]? = some (.int .i64 (c.getD p 0)) := by
  rcases (show p = 0 ∨ p = 1 ∨ p = 2 ∨ p = 3 ∨ p = 4 ∨ p = 5 ∨ p = 6 ∨ p = 7 by omega) with rfl | rfl | rfl | rfl | rfl | rfl | rfl | rfl <;> rfl
theorem cells8_one (c : List Int) : ∀ u ∈ cells8 c, u.oneCell' = true := fun u hu => by
  simp [cells8] at hu
  rcases hu with rfl | rfl | rfl | rfl | rfl | rfl | rfl | rfl <;> rfl
theorem rows8_get : ∀ (row : List (List Int)) (j p : Nat), j < row.length → p < 8 → (rows8 row)[j * 8 + p]? = some (.int .i64 ((row.getD j []).getD p 0))
  | [], j, p, hj, _ => by simp at hj
  | c :: r, 0, p, _, hp => by
    show (cells8 c ++ rows8 r)[0 * 8 + p]? = _
    rw [Nat.zero_mul, Nat.zero_add, List.getElem?_append_left (by rw [cells8_len]; exact hp)]; exact cells8_get c p hp
  | c :: r, j + 1, p, hj, hp => by
    show (cells8 c ++ rows8 r)[(j + 1) * 8 + p]? = _
    rw [List.getElem?_append_right (by rw [cells8_len]; omega), cells8_len, show (j + 1) * 8 + p - 8 = j * 8 + p by omega]
    exact rows8_get r j p (by simpa using hj) hp
theorem row_cells {w : World} {B n : Nat} {v : Value} {row : List (List Int)} (h : w.ownsRow B 77 8 v n (rows8 row)) {j : Nat} (hj : j < row.length) :
    ∃ g, v.ownBlock = some g ∧ (∃ cap, v = .slice (some ⟨g, 0, none⟩) n cap) ∧ B ≤ g ∧ ∀ p, p < 8 → w.cell? ⟨g, j * 8 + p, none⟩ = some (.int .i64 ((row.getD j []).getD p 0)) := by
  obtain ⟨a, cap, rfl, -, -, hh⟩ := own_view h
  obtain ⟨g, rfl, hb, hc, -⟩ := hh _ _ (rows8_get row j 0 hj (by omega))
  refine ⟨g, rfl, ⟨cap, rfl⟩, hb, fun p hp => ?_⟩
  obtain ⟨g', e, -, hc', -⟩ := hh _ _ (rows8_get row j p hj hp)
  cases e
  exact hc'
theorem info77 : (Try.prog.info? 77).map (fun i => (i.zero, i.size, i.bytes)) = some (some (cval zero8), 8, 64) := by kernel_rfl
def vals (row : List (List Int)) : List Value := row.map cval
theorem vals_mem {row : List (List Int)} (h : ∀ c ∈ row, c.length = 8) {c : List Int} (hc : c.length = 8) : cval c ∈ vals row ↔ c ∈ row := by
  refine ⟨fun hm => ?_, fun hm => List.mem_map.2 ⟨c, hm, rfl⟩⟩
  obtain ⟨d, hd, e⟩ := List.mem_map.1 hm
  rw [← cval_inj (h d hd) hc e]; exact hd
theorem vals_snoc (row : List (List Int)) (c : List Int) : vals (row ++ [c]) = vals row ++ [cval c] := by simp [vals]
theorem own_set_ne {w : World} {B n : Nat} {v : Value} {xs : List Value} {e : TypeId} {s : Nat} {Kd : Value → Prop} {M : Nat} {S : List Value} (h : w.ownsRow B e s v n xs) (hm : IsSet Kd w M S) : ∀ k, v.ownBlock = some k → k ≠ M := fun k hk he => by
  obtain ⟨cur, hc⟩ := own_block h k hk
  exact hm.ne_cells hc he.symm
/-- What the walk keeps in memory. -/
structure Mem (w wr : World) (C M : Nat) (l : List Ev) (v : Value) (row : List (List Int)) : Prop where
  own : wr.ownsRow w.heap.size 77 8 v row.length (rows8 row)
  set : IsSet Kc wr M (vals row)
  cts : Arr wr C 3 8 (fun p => .int .i64 ((cnt l p l.length : Nat) : Int))
  upd : Upd [] w wr

theorem not_mem_own {v : Value} {k : Nat} (h : ∀ j, v.ownBlock = some j → j ≠ k) : k ∉ v.ownBlock.toList := fun hm => by
  cases e : v.ownBlock with
  | none => rw [e] at hm; cases hm
  | some j => rw [e] at hm; have : k = j := by simpa using hm
              exact h j e this.symm
theorem Mem.new {w wr wq : World} {C M : Nat} {l : List Ev} {v : Value} {row : List (List Int)} (h : Mem w wr C M l v row) (u : Upd [] wr wq) : Mem w wq C M l v row :=
  ⟨own_new h.own u, h.set.new u, h.cts.upd u (by simp), h.upd.trans u (by simp)⟩
/-- What the condition reads. -/
def Reads (wb wz : World) (D C M p : Nat) (y x : Nat) (z0 z1 z2 z3 z4 z5 z6 z7 : Int) (b : Bool) : Prop :=
  wz.cell? ⟨D, 0, none⟩ = some (.int .i64 z0) ∧ wz.cell? ⟨D, 1, none⟩ = some (.int .i64 z1) ∧ wz.cell? ⟨D, 2, none⟩ = some (.int .i64 z2) ∧ wz.cell? ⟨D, 3, none⟩ = some (.int .i64 z3) ∧ wz.cell? ⟨D, 4, none⟩ = some (.int .i64 z4) ∧ wz.cell? ⟨D, 5, none⟩ = some (.int .i64 z5) ∧ wz.cell? ⟨D, 6, none⟩ = some (.int .i64 z6) ∧ wz.cell? ⟨D, 7, none⟩ = some (.int .i64 z7) ∧
  wz.cell? ⟨D, p, none⟩ = some (.int .i64 (y : Int)) ∧ wz.cell? ⟨C, p, none⟩ = some (.int .i64 (x : Int)) ∧ (Instr.lookup 82 (.map (some M)) (.agg #[.int .i64 z0, .int .i64 z1, .int .i64 z2, .int .i64 z3, .int .i64 z4, .int .i64 z5, .int .i64 z6, .int .i64 z7]) false).run Try.prog wz = .ok (.bool b) wz ∧ Hid (Upd [] wb wz)

set_option maxHeartbeats 4000000 in
set_option maxRecDepth 100000 in
theorem all_any (a : Option Addr) (cap : Nat) (l : List Ev) (w : World) (hx : EvRow w a l) (hlc : l.length ≤ cap) (hc : cap ≤ 9223372036854775807) (hn : l.length ≤ 200) (hv : Valid l) (hbox : boxN (cts l) ≤ 5000) :
    Calls Try.prog 31 #[.slice a l.length cap] w fun e w' => ∃ row i, e = .returned (.tuple #[.int .i64 ((row.length : Nat) : Int), .int .i64 0]) ∧ Sr l row i 0 ∧ row.length ≤ i ∧ Upd [] w w' := by
  obtain ⟨i77, hi77, ha77, hb77, hc77⟩ := info_parts info77
  have HI77 := hid hi77
  have HA77 := hid ha77
  have HB77 := hid hb77
  have HC77 := hid hc77
  clear hi77 ha77 hb77 hc77
  have chk := check_ok a cap l none 0 0 w hx hlc hc hn hv (fun j hj => absurd hj (by omega)) (by omega)
  have cnts := hid fun (w1 : World) (u : Upd [] w w1) => counts_any a cap l w1 (hx.upd u) hn hv
  have WH := hid fun (w1 : World) (u : Upd [] w w1) (b : Nat) (c : List Int) (hc : IntRow w1 (some ⟨b, 0, none⟩) c) (h8 : c.length = 8) => whole_any a cap l b 8 c w1 (hx.upd u) hn hv hc h8
  obtain ⟨n, hnl⟩ : ∃ n, n = l.length := ⟨_, rfl⟩
  rw [← hnl] at chk cnts WH ⊢
  have HN := hid hnl
  have HV := hid hv
  have HBX := hid hbox
  clear hnl hx hv hbox hlc hc
  have hmm := @run_makeMap Try.prog
  go_enter Try.func31, Try.ntmps31
  go_wp2_with fail
  refine chk.mono ?_
  rintro e w1 ⟨rfl, hu⟩
  have U1 := hid hu
  clear chk hu
  go_wp2_with fail
  refine (cnts.out w1 U1.out).mono ?_
  rintro e w2 ⟨C, rfl, hCw, ha, hu⟩
  have A2 := hid ha
  have U2 := hid (U1.out.trans hu (by simp))
  have CB := hid (show w.heap.size ≤ C by have := U1.out.size; omega)
  clear cnts ha hu U1 hCw
  go_upto_region 6 with (fail)
  obtain ⟨w3, hw3⟩ : ∃ w3, w3 = w2.alloc (.cells #[.int .i64 0, .int .i64 0, .int .i64 0, .int .i64 0, .int .i64 0, .int .i64 0, .int .i64 0, .int .i64 0] 77) := ⟨_, rfl⟩
  obtain ⟨H, hH⟩ : ∃ H, H = w2.heap.size := ⟨_, rfl⟩
  have hb3 : w3.heap[H]? = some (.cells #[.int .i64 0, .int .i64 0, .int .i64 0, .int .i64 0, .int .i64 0, .int .i64 0, .int .i64 0, .int .i64 0] 77 (0, 0)) := by rw [hH, hw3]; exact blk_new _ _
  have A3 := hid (show Arr w3 C 3 8 fun p => .int .i64 ((cnt l p n : Nat) : Int) by rw [hw3]; exact A2.out.alloc _)
  have U3 := hid (show Upd [] w w3 by rw [hw3]; exact U2.out.alloc _)
  have BH := hid (show w.heap.size ≤ H by rw [hH]; exact U2.out.size)
  rw [← hw3]
  rw [← hH]
  clear hw3 hH U2 A2
  obtain ⟨M, hM⟩ : ∃ M, M = w3.heap.size := ⟨_, rfl⟩
  have hHM : H < M := by rw [hM]; exact K.blk_lt hb3
  have hb4 := blk_alloc hb3 (.map #[] 0)
  have k0 := (blk_cell hb4 0).trans rfl
  have k1 := (blk_cell hb4 1).trans rfl
  have k2 := (blk_cell hb4 2).trans rfl
  have k3 := (blk_cell hb4 3).trans rfl
  have k4 := (blk_cell hb4 4).trans rfl
  have k5 := (blk_cell hb4 5).trans rfl
  have k6 := (blk_cell hb4 6).trans rfl
  have k7 := (blk_cell hb4 7).trans rfl
  have is4 : IsSet Kc (w3.alloc (.map #[] 0)) M [] := by rw [hM]; exact IsSet.made Kc w3
  obtain ⟨w5, S5, hput, is5, u5, hs5⟩ := MS.run_put (t := 82) (et := 4) key8 is4 Try.underlying82 (x := cval zero8) ⟨zero8, rfl, rfl⟩
  obtain rfl : S5 = vals [zero8] := by
    rcases hs5 with ⟨h, -⟩ | ⟨-, h⟩
    · cases h
    · exact h
  have hb5 := u5.blk hb4 (by simp; omega)
  have A5 := hid ((A3.out.alloc (.map #[] 0)).upd u5 (by have := A3.out.lt; simp; omega))
  have U5 := hid ((U3.out.alloc (.map #[] 0)).trans u5 (fun t ht => by simp at ht; subst ht; right; rw [hM]; exact U3.out.size))
  have MB := hid (show w.heap.size ≤ M by have := BH.out; omega)
  have S5 := hid is5
  have hput' : (Instr.mapUpdate 82 (.map (some M)) (.agg #[.int .i64 0, .int .i64 0, .int .i64 0, .int .i64 0, .int .i64 0, .int .i64 0, .int .i64 0, .int .i64 0]) (.bool true)).run Try.prog (w3.alloc (.map #[] 0)) = .ok () w5 := hput
  have hmk := hmm (w := w3)
  clear hs5 is5 u5 is4 hb4 hb3 hput hmm
  rw [hM] at hput' hHM
  go_upto_region 7 with (fail)
  rw [← hM]
  rw [← hM] at hHM
  clear hM hput' hmk k0 k1 k2 k3 k4 k5 k6 k7 A3 U3
  have k0 := (blk_cell hb5 0).trans rfl
  have k1 := (blk_cell hb5 1).trans rfl
  have k2 := (blk_cell hb5 2).trans rfl
  have k3 := (blk_cell hb5 3).trans rfl
  have k4 := (blk_cell hb5 4).trans rfl
  have k5 := (blk_cell hb5 5).trans rfl
  have k6 := (blk_cell hb5 6).trans rfl
  have k7 := (blk_cell hb5 7).trans rfl
  go_upto_region 8 with (fail)
  have M0 : Hid (Mem w (w5.alloc (.cells #[.int .i64 0, .int .i64 0, .int .i64 0, .int .i64 0, .int .i64 0, .int .i64 0, .int .i64 0, .int .i64 0] 77)) C M l (.slice (some ⟨w5.heap.size, 0, none⟩) 1 1) [zero8]) :=
    ⟨⟨rfl, .inr ⟨_, 1, _, rfl, U5.out.size, blk_new _ _, by decide, by decide, rfl, rfl⟩⟩, S5.out.new ((Upd.refl [] w5).alloc _), by rw [← HN.out]; exact A5.out.alloc _, U5.out.alloc _⟩
  clear k0 k1 k2 k3 k4 k5 k6 k7 hb5 S5 U5 A5 hHM
  go_wp2_with fail
  go_loopg [8, 9] 5000 (fun d v8 v9 wr => ∃ (i : Nat) (row : List (List Int)), v9 = .int .i64 (i : Int) ∧ Hid (i + d = 5000) ∧ Hid (Sr l row i 0) ∧ Hid (Mem w wr C M l v8 row))
  case atStart => exact ⟨0, [zero8], rfl, rfl, Sr.start HV.out, M0.out⟩
  case round =>
    clear M0
    obtain ⟨i, row, rfl, Hi, HS, HM⟩ := hrel
    have hle : row.length ≤ 5000 := Nat.le_trans HS.out.few HBX.out
    obtain ⟨m, hm⟩ : ∃ m, m = row.length := ⟨_, rfl⟩
    rw [← hm] at hle
    obtain ⟨a8, cap8, rfl, hmc8, hcl8, -⟩ := own_view HM.out.own
    rw [← hm] at hmc8 ⊢
    have Hm := hid hm
    clear hm
    by_cases hi : i < m
    · have HI := hid hi
      go_wp2_with fail
      go_loopg [8, 30] 8 (fun d v8 v30 wq => ∃ (p : Nat) (row' : List (List Int)), v30 = .int .i64 (p : Int) ∧ p ≤ 8 ∧ Hid (p + d = 8) ∧ Hid (i < row'.length) ∧ Hid (Sr l row' i p) ∧ Hid (Mem w wq C M l v8 row'))
      case atStart => exact ⟨0, row, rfl, by omega, rfl, by show i < row.length; rw [← Hm.out]; exact HI.out, HS.out, by rw [Hm.out]; exact HM.out⟩
      case round =>
        clear hmc8 hcl8 hle HS HM Hm
        obtain ⟨p, row', rfl, hp8, Hp, HIR, HS', HM'⟩ := hrel
        by_cases hp : p < 8
        · obtain ⟨q, hq⟩ : ∃ q, q = row'.length := ⟨_, rfl⟩
          have hiq : i < q := by rw [hq]; exact HIR.out
          have Hq := hid hq
          obtain ⟨g, hg, ⟨cap', rfl⟩, hgb, hcs⟩ := row_cells HM'.out.own HIR.out
          rw [← hq]
          have c0 : wr.cell? ⟨g, i * 8, none⟩ = _ := hcs 0 (by omega)
          have c1 := hcs 1 (by omega)
          have c2 := hcs 2 (by omega)
          have c3 := hcs 3 (by omega)
          have c4 := hcs 4 (by omega)
          have c5 := hcs 5 (by omega)
          have c6 := hcs 6 (by omega)
          have c7 := hcs 7 (by omega)
          obtain ⟨d, hd⟩ : ∃ d, d = row'.getD i [] := ⟨_, rfl⟩
          rw [← hd] at c0 c1 c2 c3 c4 c5 c6 c7
          have Hd := hid hd
          have hdm : d ∈ row' := by rw [hd]; exact getD_mem HIR.out
          have HVC := hid (HS'.out.ok d hdm).1
          clear hcs hq hd hg hdm
          obtain ⟨x0, hx0⟩ : ∃ x, x = d.getD 0 0 := ⟨_, rfl⟩
          rw [← hx0] at c0
          have E0 := hid hx0
          clear hx0
          obtain ⟨x1, hx1⟩ : ∃ x, x = d.getD 1 0 := ⟨_, rfl⟩
          rw [← hx1] at c1
          have E1 := hid hx1
          clear hx1
          obtain ⟨x2, hx2⟩ : ∃ x, x = d.getD 2 0 := ⟨_, rfl⟩
          rw [← hx2] at c2
          have E2 := hid hx2
          clear hx2
          obtain ⟨x3, hx3⟩ : ∃ x, x = d.getD 3 0 := ⟨_, rfl⟩
          rw [← hx3] at c3
          have E3 := hid hx3
          clear hx3
          obtain ⟨x4, hx4⟩ : ∃ x, x = d.getD 4 0 := ⟨_, rfl⟩
          rw [← hx4] at c4
          have E4 := hid hx4
          clear hx4
          obtain ⟨x5, hx5⟩ : ∃ x, x = d.getD 5 0 := ⟨_, rfl⟩
          rw [← hx5] at c5
          have E5 := hid hx5
          clear hx5
          obtain ⟨x6, hx6⟩ : ∃ x, x = d.getD 6 0 := ⟨_, rfl⟩
          rw [← hx6] at c6
          have E6 := hid hx6
          clear hx6
          obtain ⟨x7, hx7⟩ : ∃ x, x = d.getD 7 0 := ⟨_, rfl⟩
          rw [← hx7] at c7
          have E7 := hid hx7
          clear hx7
          go_upto_region 15 with (fail)
          obtain ⟨wa, hwa⟩ : ∃ wa, wa = wr.alloc (.cells #[.int .i64 x0, .int .i64 x1, .int .i64 x2, .int .i64 x3, .int .i64 x4, .int .i64 x5, .int .i64 x6, .int .i64 x7] 77) := ⟨_, rfl⟩
          obtain ⟨D, hD⟩ : ∃ D, D = wr.heap.size := ⟨_, rfl⟩
          have AD : Arr wa D 77 8 (fun z => .int .i64 (d.getD z 0)) := by
            rw [hwa, hD]
            refine arr_new wr (cells8 d) 77 8 _ rfl (fun z hz => cells8_get d z hz) |> fun h => ?_
            rw [E0.out, E1.out, E2.out, E3.out, E4.out, E5.out, E6.out, E7.out]; exact h
          have Ua := hid (show Upd [] wr wa by rw [hwa]; exact (Upd.refl [] wr).alloc _)
          rw [← hwa]
          rw [← hD]
          clear hwa c0 c1 c2 c3 c4 c5 c6 c7 E0 E1 E2 E3 E4 E5 E6 E7
          obtain ⟨y, hy⟩ : ∃ y : Nat, d.getD p 0 = (y : Int) := ⟨(d.getD p 0).toNat, by have := HVC.out.low p hp; omega⟩
          have hyn : y ≤ 200 := by have h1 := HVC.out.high p hp; have h2 := cnt_le l p l.length; omega
          have cp := AD.val hp (v := .int .i64 (y : Int)) (by rw [← hy])
          have fp := AD.fro p
          have HAD := hid AD
          have HD := hid hD
          have HY := hid hy
          clear AD hD hy
          go_upto_region 16 with (fail)
          obtain ⟨y', hy'⟩ : ∃ y' : Nat, (y : Int) + 1 = (y' : Int) := ⟨y + 1, by omega⟩
          have HY' := hid hy'
          rw [hy']
          obtain ⟨u, hu⟩ : ∃ u, u = upC d p := ⟨_, rfl⟩
          have hu8 : u.length = 8 := by rw [hu, up_len, HVC.out.len]
          have hup : u.getD p 0 = (y' : Int) := by rw [hu, up_get _ _ _ (by rw [HVC.out.len]; exact hp), if_pos rfl, HY.out, hy']
          obtain ⟨wb, hwb⟩ : ∃ wb, wb = wa.setCell ⟨D, p, none⟩ (.int .i64 (y' : Int)) := ⟨_, rfl⟩
          have AU := hid (show Arr wb D 77 8 (fun z => .int .i64 (u.getD z 0)) by
            rw [hwb]
            refine (HAD.out.set p _).congr (fun z hz => ?_)
            by_cases e : z = p
            · subst e; rw [if_pos rfl, hup]
            · rw [if_neg e, hu, up_get _ _ _ (by rw [HVC.out.len]; exact hp), if_neg (fun q => e q.symm)])
          have Ub := hid (show Upd [] wr wb by rw [hwb]; exact Ua.out.setCell (.inr (by show wr.heap.size ≤ D; rw [HD.out]; exact Nat.le_refl _)) _)
          have MB' : Hid (Mem w wb C M l (.slice (some ⟨g, 0, none⟩) q cap') row') := by
            rw [Hq.out]; exact HM'.out.new Ub.out
          rw [← hwb]
          clear hwb hy' cp fp HAD Ua HM'
          obtain ⟨x, hx⟩ : ∃ x, x = cnt l p l.length := ⟨_, rfl⟩
          obtain ⟨z0, hz0⟩ : ∃ x, x = u.getD 0 0 := ⟨_, rfl⟩
          obtain ⟨z1, hz1⟩ : ∃ x, x = u.getD 1 0 := ⟨_, rfl⟩
          obtain ⟨z2, hz2⟩ : ∃ x, x = u.getD 2 0 := ⟨_, rfl⟩
          obtain ⟨z3, hz3⟩ : ∃ x, x = u.getD 3 0 := ⟨_, rfl⟩
          obtain ⟨z4, hz4⟩ : ∃ x, x = u.getD 4 0 := ⟨_, rfl⟩
          obtain ⟨z5, hz5⟩ : ∃ x, x = u.getD 5 0 := ⟨_, rfl⟩
          obtain ⟨z6, hz6⟩ : ∃ x, x = u.getD 6 0 := ⟨_, rfl⟩
          obtain ⟨z7, hz7⟩ : ∃ x, x = u.getD 7 0 := ⟨_, rfl⟩
          have ZV : cval u = .agg #[.int .i64 z0, .int .i64 z1, .int .i64 z2, .int .i64 z3, .int .i64 z4, .int .i64 z5, .int .i64 z6, .int .i64 z7] := by
            rw [hz0, hz1, hz2, hz3, hz4, hz5, hz6, hz7]; rfl
          have KEEP := hid (show ∀ wz, Upd [] wb wz → ∀ b : Bool, (b = true ↔ u ∈ row') → Reads wb wz D C M p y' x z0 z1 z2 z3 z4 z5 z6 z7 b from fun wz uz b hb => by
            have A := AU.out.upd uz (by simp)
            refine ⟨A.val (by omega) (by rw [hz0]), A.val (by omega) (by rw [hz1]), A.val (by omega) (by rw [hz2]), A.val (by omega) (by rw [hz3]), A.val (by omega) (by rw [hz4]), A.val (by omega) (by rw [hz5]), A.val (by omega) (by rw [hz6]), A.val (by omega) (by rw [hz7]), A.val hp (by rw [hup]), (MB'.out.cts.upd uz (by simp)).val hp (by rw [hx]), ?_, uz⟩
            obtain ⟨B, h1, h2⟩ := MS.run_has (t := 82) (et := 4) key8 (MB'.out.set.new uz) Try.underlying82 (zeroB wz) (x := cval u) ⟨u, hu8, rfl⟩
            rw [← ZV, h1]
            have hv8 : ∀ c ∈ row', c.length = 8 := fun c hc => (HS'.out.ok c hc).1.len
            have : B = b := by
              rw [Bool.eq_iff_iff, h2, hb]; exact vals_mem hv8 hu8
            rw [this])
          have ZC : ∀ wz, Upd [] wb wz → IntRow wz (some ⟨D, 0, none⟩) u := fun wz uz => Arr.row (AU.out.upd uz (by simp)) hu8
          obtain ⟨b2, hb2⟩ : ∃ b2 : Bool, b2 = true ↔ u ∈ row' := ⟨decide (u ∈ row'), by simp⟩
          have HZ := hid (show u.length = 8 from hu8)
          have HU := hid hu
          have HX := hid hx
          have HUP := hid hup
          have HB2 := hid hb2
          have KB := hid (KEEP.out · · b2 hb2)
          have HZC := hid ZC
          have HZV := hid ZV
          have HHB := hid hgb
          have EZ0 := hid hz0
          have EZ1 := hid hz1
          have EZ2 := hid hz2
          have EZ3 := hid hz3
          have EZ4 := hid hz4
          have EZ5 := hid hz5
          have EZ6 := hid hz6
          have EZ7 := hid hz7
          clear hu hx hup hb2 hz0 hz1 hz2 hz3 hz4 hz5 hz6 hz7 ZV ZC KEEP hu8
          cases hb1 : decide (x < y') with
          | true =>
            go_upto_region 16 with (fail)
            refine J.J_begin (fun wz => Reads wb wz D C M p y' x z0 z1 z2 z3 z4 z5 z6 z7 b2) 18 (by kernel_rfl) ⟨by kernel_rfl, by kernel_rfl, by kernel_rfl⟩ (KB.out _ ((Upd.refl [] wb).drew)) (fun LAST HS => ?_)
            refine J.J_take (i := 0) (v := ?_) LAST (by rfl) (by decide) (by kernel_rfl) (by kernel_rfl) (by intro _ _ _ h; exact h) HS (Or.inl ⟨by rfl, ?_⟩) ?_
            rotate_left
            · intro w hSw; (try simp only [Reads] at hSw); go_simp; try with_reducible rfl
            try simp only [Act.put, List.setIfInBounds_toArray, List.set_cons_zero, List.set_cons_succ]
            refine J.J_take (i := 1) (v := ?_) LAST (by rfl) (by decide) (by kernel_rfl) (by kernel_rfl) (by intro _ _ _ h; exact h) HS (Or.inl ⟨by rfl, ?_⟩) ?_
            rotate_left
            · intro w hSw; (try simp only [Reads] at hSw); go_simp; try with_reducible rfl
            try simp only [Act.put, List.setIfInBounds_toArray, List.set_cons_zero, List.set_cons_succ]
            refine J.J_take (i := 2) (v := ?_) LAST (by rfl) (by decide) (by kernel_rfl) (by kernel_rfl) (by intro _ _ _ h; exact h) HS (Or.inl ⟨by rfl, ?_⟩) ?_
            rotate_left
            · intro w hSw; (try simp only [Reads] at hSw); go_simp; try with_reducible rfl
            try simp only [Act.put, List.setIfInBounds_toArray, List.set_cons_zero, List.set_cons_succ]
            refine J.J_take (i := 3) (v := ?_) LAST (by rfl) (by decide) (by kernel_rfl) (by kernel_rfl) (by intro _ _ _ h; exact h) HS (Or.inl ⟨by rfl, ?_⟩) ?_
            rotate_left
            · intro w hSw; (try simp only [Reads] at hSw); go_simp; try with_reducible rfl
            try simp only [Act.put, List.setIfInBounds_toArray, List.set_cons_zero, List.set_cons_succ]
            refine J.J_take (i := 4) (v := ?_) LAST (by rfl) (by decide) (by kernel_rfl) (by kernel_rfl) (by intro _ _ _ h; exact h) HS (Or.inl ⟨by rfl, ?_⟩) ?_
            rotate_left
            · intro w hSw; (try simp only [Reads] at hSw); go_simp; try with_reducible rfl
            try simp only [Act.put, List.setIfInBounds_toArray, List.set_cons_zero, List.set_cons_succ]
            refine J.J_take (i := 5) (v := ?_) LAST (by rfl) (by decide) (by kernel_rfl) (by kernel_rfl) (by intro _ _ _ h; exact h) HS (Or.inl ⟨by rfl, ?_⟩) ?_
            rotate_left
            · intro w hSw; (try simp only [Reads] at hSw); go_simp; try with_reducible rfl
            try simp only [Act.put, List.setIfInBounds_toArray, List.set_cons_zero, List.set_cons_succ]
            refine J.J_take (i := 6) (v := ?_) LAST (by rfl) (by decide) (by kernel_rfl) (by kernel_rfl) (by intro _ _ _ h; exact h) HS (Or.inl ⟨by rfl, ?_⟩) ?_
            rotate_left
            · intro w hSw; (try simp only [Reads] at hSw); go_simp; try with_reducible rfl
            try simp only [Act.put, List.setIfInBounds_toArray, List.set_cons_zero, List.set_cons_succ]
            refine J.J_take (i := 7) (v := .bool true) LAST (by rfl) (by decide) (by kernel_rfl) (by kernel_rfl) (by intro _ _ _ h; exact h) HS (Or.inl ⟨by rfl, ?_⟩) ?_
            · intro w hSw; (try simp only [Reads] at hSw); go_simp
            try simp only [Act.put, List.setIfInBounds_toArray, List.set_cons_zero, List.set_cons_succ]
            refine J.J_take (i := 8) (v := ?_) LAST (by rfl) (by decide) (by kernel_rfl) (by kernel_rfl) (by intro _ _ _ h; exact h) HS (Or.inl ⟨by rfl, ?_⟩) ?_
            rotate_left
            · intro w hSw; (try simp only [Reads] at hSw); go_simp; try with_reducible rfl
            try simp only [Act.put, List.setIfInBounds_toArray, List.set_cons_zero, List.set_cons_succ]
            refine J.J_take (i := 9) (v := undef) LAST (by rfl) (by decide) (by kernel_rfl) (by kernel_rfl) (by intro _ _ _ h; exact h) HS (Or.inr ⟨by rfl, rfl⟩) ?_
            try simp only [Act.put, List.setIfInBounds_toArray, List.set_cons_zero, List.set_cons_succ]
            refine J.J_take (i := 10) (v := undef) LAST (by rfl) (by decide) (by kernel_rfl) (by kernel_rfl) (by intro _ _ _ h; exact h) HS (Or.inr ⟨by rfl, rfl⟩) ?_
            try simp only [Act.put, List.setIfInBounds_toArray, List.set_cons_zero, List.set_cons_succ]
            refine J.J_take (i := 11) (v := undef) LAST (by rfl) (by decide) (by kernel_rfl) (by kernel_rfl) (by intro _ _ _ h; exact h) HS (Or.inr ⟨by rfl, rfl⟩) ?_
            try simp only [Act.put, List.setIfInBounds_toArray, List.set_cons_zero, List.set_cons_succ]
            refine J.J_take (i := 12) (v := ?_) LAST (by rfl) (by decide) (by kernel_rfl) (by kernel_rfl) (by intro _ _ _ h; exact h) HS (Or.inl ⟨by rfl, ?_⟩) ?_
            rotate_left
            · intro w hSw; (try simp only [Reads] at hSw); go_simp; try with_reducible rfl
            try simp only [Act.put, List.setIfInBounds_toArray, List.set_cons_zero, List.set_cons_succ]
            refine J.J_take (i := 13) (v := ?_) LAST (by rfl) (by decide) (by kernel_rfl) (by kernel_rfl) (by intro _ _ _ h; exact h) HS (Or.inl ⟨by rfl, ?_⟩) ?_
            rotate_left
            · intro w hSw; (try simp only [Reads] at hSw); go_simp; try with_reducible rfl
            try simp only [Act.put, List.setIfInBounds_toArray, List.set_cons_zero, List.set_cons_succ]
            refine J.J_take (i := 14) (v := undef) LAST (by rfl) (by decide) (by kernel_rfl) (by kernel_rfl) (by intro _ _ _ h; exact h) HS (Or.inr ⟨by rfl, rfl⟩) ?_
            try simp only [Act.put, List.setIfInBounds_toArray, List.set_cons_zero, List.set_cons_succ]
            refine J.J_take (i := 15) (v := undef) LAST (by rfl) (by decide) (by kernel_rfl) (by kernel_rfl) (by intro _ _ _ h; exact h) HS (Or.inr ⟨by rfl, rfl⟩) ?_
            try simp only [Act.put, List.setIfInBounds_toArray, List.set_cons_zero, List.set_cons_succ]
            refine J.J_take (i := 16) (v := undef) LAST (by rfl) (by decide) (by kernel_rfl) (by kernel_rfl) (by intro _ _ _ h; exact h) HS (Or.inr ⟨by rfl, rfl⟩) ?_
            try simp only [Act.put, List.setIfInBounds_toArray, List.set_cons_zero, List.set_cons_succ]
            refine J.J_take (i := 17) (v := undef) LAST (by rfl) (by decide) (by kernel_rfl) (by kernel_rfl) (by intro _ _ _ h; exact h) HS (Or.inr ⟨by rfl, rfl⟩) ?_
            try simp only [Act.put, List.setIfInBounds_toArray, List.set_cons_zero, List.set_cons_succ]
            refine J.J_last (by rfl) (by kernel_rfl) (by kernel_rfl) ?_
            go_simp
            go_wp2_with fail
            go_roundg (8 - (p + 1))
            case measure => have := Hp.out; omega
            case rel => exact ⟨p + 1, row', by go_num, by omega, by show _ = _; omega, HIR.out, Sr.skip HS'.out (fun hc hw => by
              have h1 := hc.high p hp
              rw [← Hd.out, ← HU.out, HUP.out, ← HX.out] at h1
              have h2 := of_decide_eq_true hb1
              omega), MB'.out.new ((Upd.refl [] wb).drew)⟩
          | false =>
            cases b2 with
            | true =>
              go_upto_region 16 with (fail)
              refine J.J_begin (fun wz => Reads wb wz D C M p y' x z0 z1 z2 z3 z4 z5 z6 z7 true) 18 (by kernel_rfl) ⟨by kernel_rfl, by kernel_rfl, by kernel_rfl⟩ (KB.out _ ((Upd.refl [] wb).drew)) (fun LAST HS => ?_)
              refine J.J_take (i := 0) (v := ?_) LAST (by rfl) (by decide) (by kernel_rfl) (by kernel_rfl) (by intro _ _ _ h; exact h) HS (Or.inl ⟨by rfl, ?_⟩) ?_
              rotate_left
              · intro w hSw; (try simp only [Reads] at hSw); go_simp; try with_reducible rfl
              try simp only [Act.put, List.setIfInBounds_toArray, List.set_cons_zero, List.set_cons_succ]
              refine J.J_take (i := 1) (v := ?_) LAST (by rfl) (by decide) (by kernel_rfl) (by kernel_rfl) (by intro _ _ _ h; exact h) HS (Or.inl ⟨by rfl, ?_⟩) ?_
              rotate_left
              · intro w hSw; (try simp only [Reads] at hSw); go_simp; try with_reducible rfl
              try simp only [Act.put, List.setIfInBounds_toArray, List.set_cons_zero, List.set_cons_succ]
              refine J.J_take (i := 2) (v := ?_) LAST (by rfl) (by decide) (by kernel_rfl) (by kernel_rfl) (by intro _ _ _ h; exact h) HS (Or.inl ⟨by rfl, ?_⟩) ?_
              rotate_left
              · intro w hSw; (try simp only [Reads] at hSw); go_simp; try with_reducible rfl
              try simp only [Act.put, List.setIfInBounds_toArray, List.set_cons_zero, List.set_cons_succ]
              refine J.J_take (i := 3) (v := ?_) LAST (by rfl) (by decide) (by kernel_rfl) (by kernel_rfl) (by intro _ _ _ h; exact h) HS (Or.inl ⟨by rfl, ?_⟩) ?_
              rotate_left
              · intro w hSw; (try simp only [Reads] at hSw); go_simp; try with_reducible rfl
              try simp only [Act.put, List.setIfInBounds_toArray, List.set_cons_zero, List.set_cons_succ]
              refine J.J_take (i := 4) (v := ?_) LAST (by rfl) (by decide) (by kernel_rfl) (by kernel_rfl) (by intro _ _ _ h; exact h) HS (Or.inl ⟨by rfl, ?_⟩) ?_
              rotate_left
              · intro w hSw; (try simp only [Reads] at hSw); go_simp; try with_reducible rfl
              try simp only [Act.put, List.setIfInBounds_toArray, List.set_cons_zero, List.set_cons_succ]
              refine J.J_take (i := 5) (v := ?_) LAST (by rfl) (by decide) (by kernel_rfl) (by kernel_rfl) (by intro _ _ _ h; exact h) HS (Or.inl ⟨by rfl, ?_⟩) ?_
              rotate_left
              · intro w hSw; (try simp only [Reads] at hSw); go_simp; try with_reducible rfl
              try simp only [Act.put, List.setIfInBounds_toArray, List.set_cons_zero, List.set_cons_succ]
              refine J.J_take (i := 6) (v := ?_) LAST (by rfl) (by decide) (by kernel_rfl) (by kernel_rfl) (by intro _ _ _ h; exact h) HS (Or.inl ⟨by rfl, ?_⟩) ?_
              rotate_left
              · intro w hSw; (try simp only [Reads] at hSw); go_simp; try with_reducible rfl
              try simp only [Act.put, List.setIfInBounds_toArray, List.set_cons_zero, List.set_cons_succ]
              refine J.J_take (i := 7) (v := .bool false) LAST (by rfl) (by decide) (by kernel_rfl) (by kernel_rfl) (by intro _ _ _ h; exact h) HS (Or.inl ⟨by rfl, ?_⟩) ?_
              · intro w hSw; (try simp only [Reads] at hSw); go_simp
              try simp only [Act.put, List.setIfInBounds_toArray, List.set_cons_zero, List.set_cons_succ]
              refine J.J_take (i := 8) (v := ?_) LAST (by rfl) (by decide) (by kernel_rfl) (by kernel_rfl) (by intro _ _ _ h; exact h) HS (Or.inl ⟨by rfl, ?_⟩) ?_
              rotate_left
              · intro w hSw; (try simp only [Reads] at hSw); go_simp; try with_reducible rfl
              try simp only [Act.put, List.setIfInBounds_toArray, List.set_cons_zero, List.set_cons_succ]
              refine J.J_take (i := 9) (v := ?_) LAST (by rfl) (by decide) (by kernel_rfl) (by kernel_rfl) (by intro _ _ _ h; exact h) HS (Or.inl ⟨by rfl, ?_⟩) ?_
              rotate_left
              · intro w hSw; (try simp only [Reads] at hSw); go_simp; try with_reducible rfl
              try simp only [Act.put, List.setIfInBounds_toArray, List.set_cons_zero, List.set_cons_succ]
              refine J.J_take (i := 10) (v := ?_) LAST (by rfl) (by decide) (by kernel_rfl) (by kernel_rfl) (by intro _ _ _ h; exact h) HS (Or.inl ⟨by rfl, ?_⟩) ?_
              rotate_left
              · intro w hSw; (try simp only [Reads] at hSw); go_simp; try with_reducible rfl
              try simp only [Act.put, List.setIfInBounds_toArray, List.set_cons_zero, List.set_cons_succ]
              refine J.J_take (i := 11) (v := ?_) LAST (by rfl) (by decide) (by kernel_rfl) (by kernel_rfl) (by intro _ _ _ h; exact h) HS (Or.inl ⟨by rfl, ?_⟩) ?_
              rotate_left
              · intro w hSw; (try simp only [Reads] at hSw); go_simp; try with_reducible rfl
              try simp only [Act.put, List.setIfInBounds_toArray, List.set_cons_zero, List.set_cons_succ]
              refine J.J_take (i := 12) (v := ?_) LAST (by rfl) (by decide) (by kernel_rfl) (by kernel_rfl) (by intro _ _ _ h; exact h) HS (Or.inl ⟨by rfl, ?_⟩) ?_
              rotate_left
              · intro w hSw; (try simp only [Reads] at hSw); go_simp; try with_reducible rfl
              try simp only [Act.put, List.setIfInBounds_toArray, List.set_cons_zero, List.set_cons_succ]
              refine J.J_take (i := 13) (v := ?_) LAST (by rfl) (by decide) (by kernel_rfl) (by kernel_rfl) (by intro _ _ _ h; exact h) HS (Or.inl ⟨by rfl, ?_⟩) ?_
              rotate_left
              · intro w hSw; (try simp only [Reads] at hSw); go_simp; try with_reducible rfl
              try simp only [Act.put, List.setIfInBounds_toArray, List.set_cons_zero, List.set_cons_succ]
              refine J.J_take (i := 14) (v := undef) LAST (by rfl) (by decide) (by kernel_rfl) (by kernel_rfl) (by intro _ _ _ h; exact h) HS (Or.inr ⟨by rfl, rfl⟩) ?_
              try simp only [Act.put, List.setIfInBounds_toArray, List.set_cons_zero, List.set_cons_succ]
              refine J.J_take (i := 15) (v := undef) LAST (by rfl) (by decide) (by kernel_rfl) (by kernel_rfl) (by intro _ _ _ h; exact h) HS (Or.inr ⟨by rfl, rfl⟩) ?_
              try simp only [Act.put, List.setIfInBounds_toArray, List.set_cons_zero, List.set_cons_succ]
              refine J.J_take (i := 16) (v := undef) LAST (by rfl) (by decide) (by kernel_rfl) (by kernel_rfl) (by intro _ _ _ h; exact h) HS (Or.inr ⟨by rfl, rfl⟩) ?_
              try simp only [Act.put, List.setIfInBounds_toArray, List.set_cons_zero, List.set_cons_succ]
              refine J.J_take (i := 17) (v := undef) LAST (by rfl) (by decide) (by kernel_rfl) (by kernel_rfl) (by intro _ _ _ h; exact h) HS (Or.inr ⟨by rfl, rfl⟩) ?_
              try simp only [Act.put, List.setIfInBounds_toArray, List.set_cons_zero, List.set_cons_succ]
              refine J.J_last (by rfl) (by kernel_rfl) (by kernel_rfl) ?_
              go_simp
              go_wp2_with fail
              go_roundg (8 - (p + 1))
              case measure => have := Hp.out; omega
              case rel => exact ⟨p + 1, row', by go_num, by omega, by show _ = _; omega, HIR.out, Sr.skip HS'.out (fun hc hw => by rw [← Hd.out, ← HU.out]; exact HB2.out.1 (by first | rfl | trivial)), MB'.out.new ((Upd.refl [] wb).drew)⟩
            | false =>
              go_upto_region 16 with (fail)
              refine J.J_begin (fun wz => Reads wb wz D C M p y' x z0 z1 z2 z3 z4 z5 z6 z7 false) 18 (by kernel_rfl) ⟨by kernel_rfl, by kernel_rfl, by kernel_rfl⟩ (KB.out _ ((Upd.refl [] wb).drew)) (fun LAST HS => ?_)
              refine J.J_take (i := 0) (v := ?_) LAST (by rfl) (by decide) (by kernel_rfl) (by kernel_rfl) (by intro _ _ _ h; exact h) HS (Or.inl ⟨by rfl, ?_⟩) ?_
              rotate_left
              · intro w hSw; (try simp only [Reads] at hSw); go_simp; try with_reducible rfl
              try simp only [Act.put, List.setIfInBounds_toArray, List.set_cons_zero, List.set_cons_succ]
              refine J.J_take (i := 1) (v := ?_) LAST (by rfl) (by decide) (by kernel_rfl) (by kernel_rfl) (by intro _ _ _ h; exact h) HS (Or.inl ⟨by rfl, ?_⟩) ?_
              rotate_left
              · intro w hSw; (try simp only [Reads] at hSw); go_simp; try with_reducible rfl
              try simp only [Act.put, List.setIfInBounds_toArray, List.set_cons_zero, List.set_cons_succ]
              refine J.J_take (i := 2) (v := ?_) LAST (by rfl) (by decide) (by kernel_rfl) (by kernel_rfl) (by intro _ _ _ h; exact h) HS (Or.inl ⟨by rfl, ?_⟩) ?_
              rotate_left
              · intro w hSw; (try simp only [Reads] at hSw); go_simp; try with_reducible rfl
              try simp only [Act.put, List.setIfInBounds_toArray, List.set_cons_zero, List.set_cons_succ]
              refine J.J_take (i := 3) (v := ?_) LAST (by rfl) (by decide) (by kernel_rfl) (by kernel_rfl) (by intro _ _ _ h; exact h) HS (Or.inl ⟨by rfl, ?_⟩) ?_
              rotate_left
              · intro w hSw; (try simp only [Reads] at hSw); go_simp; try with_reducible rfl
              try simp only [Act.put, List.setIfInBounds_toArray, List.set_cons_zero, List.set_cons_succ]
              refine J.J_take (i := 4) (v := ?_) LAST (by rfl) (by decide) (by kernel_rfl) (by kernel_rfl) (by intro _ _ _ h; exact h) HS (Or.inl ⟨by rfl, ?_⟩) ?_
              rotate_left
              · intro w hSw; (try simp only [Reads] at hSw); go_simp; try with_reducible rfl
              try simp only [Act.put, List.setIfInBounds_toArray, List.set_cons_zero, List.set_cons_succ]
              refine J.J_take (i := 5) (v := ?_) LAST (by rfl) (by decide) (by kernel_rfl) (by kernel_rfl) (by intro _ _ _ h; exact h) HS (Or.inl ⟨by rfl, ?_⟩) ?_
              rotate_left
              · intro w hSw; (try simp only [Reads] at hSw); go_simp; try with_reducible rfl
              try simp only [Act.put, List.setIfInBounds_toArray, List.set_cons_zero, List.set_cons_succ]
              refine J.J_take (i := 6) (v := ?_) LAST (by rfl) (by decide) (by kernel_rfl) (by kernel_rfl) (by intro _ _ _ h; exact h) HS (Or.inl ⟨by rfl, ?_⟩) ?_
              rotate_left
              · intro w hSw; (try simp only [Reads] at hSw); go_simp; try with_reducible rfl
              try simp only [Act.put, List.setIfInBounds_toArray, List.set_cons_zero, List.set_cons_succ]
              refine J.J_take (i := 7) (v := .bool false) LAST (by rfl) (by decide) (by kernel_rfl) (by kernel_rfl) (by intro _ _ _ h; exact h) HS (Or.inl ⟨by rfl, ?_⟩) ?_
              · intro w hSw; (try simp only [Reads] at hSw); go_simp
              try simp only [Act.put, List.setIfInBounds_toArray, List.set_cons_zero, List.set_cons_succ]
              refine J.J_take (i := 8) (v := ?_) LAST (by rfl) (by decide) (by kernel_rfl) (by kernel_rfl) (by intro _ _ _ h; exact h) HS (Or.inl ⟨by rfl, ?_⟩) ?_
              rotate_left
              · intro w hSw; (try simp only [Reads] at hSw); go_simp; try with_reducible rfl
              try simp only [Act.put, List.setIfInBounds_toArray, List.set_cons_zero, List.set_cons_succ]
              refine J.J_take (i := 9) (v := ?_) LAST (by rfl) (by decide) (by kernel_rfl) (by kernel_rfl) (by intro _ _ _ h; exact h) HS (Or.inl ⟨by rfl, ?_⟩) ?_
              rotate_left
              · intro w hSw; (try simp only [Reads] at hSw); go_simp; try with_reducible rfl
              try simp only [Act.put, List.setIfInBounds_toArray, List.set_cons_zero, List.set_cons_succ]
              refine J.J_take (i := 10) (v := ?_) LAST (by rfl) (by decide) (by kernel_rfl) (by kernel_rfl) (by intro _ _ _ h; exact h) HS (Or.inl ⟨by rfl, ?_⟩) ?_
              rotate_left
              · intro w hSw; (try simp only [Reads] at hSw); go_simp; try with_reducible rfl
              try simp only [Act.put, List.setIfInBounds_toArray, List.set_cons_zero, List.set_cons_succ]
              refine J.J_take (i := 11) (v := ?_) LAST (by rfl) (by decide) (by kernel_rfl) (by kernel_rfl) (by intro _ _ _ h; exact h) HS (Or.inl ⟨by rfl, ?_⟩) ?_
              rotate_left
              · intro w hSw; (try simp only [Reads] at hSw); go_simp; try with_reducible rfl
              try simp only [Act.put, List.setIfInBounds_toArray, List.set_cons_zero, List.set_cons_succ]
              refine J.J_take (i := 12) (v := ?_) LAST (by rfl) (by decide) (by kernel_rfl) (by kernel_rfl) (by intro _ _ _ h; exact h) HS (Or.inl ⟨by rfl, ?_⟩) ?_
              rotate_left
              · intro w hSw; (try simp only [Reads] at hSw); go_simp; try with_reducible rfl
              try simp only [Act.put, List.setIfInBounds_toArray, List.set_cons_zero, List.set_cons_succ]
              refine J.J_take (i := 13) (v := ?_) LAST (by rfl) (by decide) (by kernel_rfl) (by kernel_rfl) (by intro _ _ _ h; exact h) HS (Or.inl ⟨by rfl, ?_⟩) ?_
              rotate_left
              · intro w hSw; (try simp only [Reads] at hSw); go_simp; try with_reducible rfl
              try simp only [Act.put, List.setIfInBounds_toArray, List.set_cons_zero, List.set_cons_succ]
              refine J.J_take (i := 14) (v := ?_) LAST (by rfl) (by decide) (by kernel_rfl) (by kernel_rfl) (by intro _ _ _ h; exact h) HS (Or.inl ⟨by rfl, ?_⟩) ?_
              rotate_left
              · intro w hSw; (try simp only [Reads] at hSw); go_simp; try with_reducible rfl
              try simp only [Act.put, List.setIfInBounds_toArray, List.set_cons_zero, List.set_cons_succ]
              refine J.J_take (i := 15) (v := ?_) LAST (by rfl) (by decide) (by kernel_rfl) (by kernel_rfl) (by intro _ _ _ h; exact h) HS (Or.inl ⟨by rfl, ?_⟩) ?_
              rotate_left
              · intro w hSw; (try simp only [Reads] at hSw); go_simp; try with_reducible rfl
              try simp only [Act.put, List.setIfInBounds_toArray, List.set_cons_zero, List.set_cons_succ]
              refine J.J_one (i := 16) (by rfl) (by decide) (by kernel_rfl) (fun KK hK => ?_)
              go_simp
              refine (WH.out _ ((MB'.out.new ((Upd.refl [] wb).drew)).upd) D u (HZC.out _ ((Upd.refl [] wb).drew)) HZ.out).mono ?_
              rintro e wc ⟨B, rfl, hB, hu⟩
              have Uc := hid (((Upd.refl [] wb).drew).trans hu (by simp))
              have HWB := hid hB.out
              clear hu hB
              go_simp
              have HS2 := KB.out _ Uc.out
              refine hK.out _ _ HS2 ?_
              clear hK KK HS
              try simp only [List.setIfInBounds_toArray]
              have HS := HS2
              clear HS2
              cases B with
              | false =>
                refine J.J_take (i := 17) (v := ?_) LAST (by rfl) (by decide) (by kernel_rfl) (by kernel_rfl) (by intro _ _ _ h; exact h) HS (Or.inl ⟨by rfl, ?_⟩) ?_
                rotate_left
                · intro w hSw; (try simp only [Reads] at hSw); go_simp; try with_reducible rfl
                try simp only [Act.put, List.setIfInBounds_toArray, List.set_cons_zero, List.set_cons_succ]
                refine J.J_last (by rfl) (by kernel_rfl) (by kernel_rfl) ?_
                go_simp
                go_wp2_with fail
                go_roundg (8 - (p + 1))
                case measure => have := Hp.out; omega
                case rel => exact ⟨p + 1, row', by go_num, by omega, by show _ = _; omega, HIR.out, Sr.skip HS'.out (fun hc hw => absurd (HWB.out.2 (by rw [HU.out, Hd.out]; exact hw)) (by decide)), MB'.out.new Uc.out⟩
              | true =>
                refine J.J_take (i := 17) (v := ?_) LAST (by rfl) (by decide) (by kernel_rfl) (by kernel_rfl) (by intro _ _ _ h; exact h) HS (Or.inl ⟨by rfl, ?_⟩) ?_
                rotate_left
                · intro w hSw; (try simp only [Reads] at hSw); go_simp; try with_reducible rfl
                try simp only [Act.put, List.setIfInBounds_toArray, List.set_cons_zero, List.set_cons_succ]
                refine J.J_last (by rfl) (by kernel_rfl) (by kernel_rfl) ?_
                go_simp
                have hvu : VCut l u := ⟨HZ.out, fun r hr => by
                  rw [HU.out, up_get _ _ _ (by rw [HVC.out.len]; exact hp)]
                  have := HVC.out.low r hr
                  have := HVC.out.low p hp
                  split <;> omega, fun r hr => by
                  by_cases e : p = r
                  · subst e
                    have h2 := of_decide_eq_false hb1
                    rw [HUP.out, ← HX.out]; omega
                  · rw [HU.out, up_get _ _ _ (by rw [HVC.out.len]; exact hp), if_neg e]; exact HVC.out.high r hr⟩
                have hnu : u ∉ row' := fun h => by have := HB2.out.2 h; cases this
                have SP := hid (Sr.push HS'.out HIR.out (by rw [HU.out, Hd.out]) hvu (HWB.out.1 rfl) hnu)
                have hq5 : q < 5000 := by
                  have h1 := SP.out.few
                  have h2 := HBX.out
                  rw [List.length_append, ← Hq.out] at h1
                  simp only [List.length_cons, List.length_nil] at h1
                  omega
                have hq5' : ¬ q = 5000 := by omega
                have HMc := hid (MB'.out.new Uc.out)
                have AUc := hid (AU.out.upd Uc.out (by simp))
                have HNU := hid hnu
                clear hvu hnu AU MB' HS HZC KB WH
                have k0 := AUc.out.val (z := 0) (by decide) (v := .int .i64 z0) (by rw [EZ0.out])
                have k1 := AUc.out.val (z := 1) (by decide) (v := .int .i64 z1) (by rw [EZ1.out])
                have k2 := AUc.out.val (z := 2) (by decide) (v := .int .i64 z2) (by rw [EZ2.out])
                have k3 := AUc.out.val (z := 3) (by decide) (v := .int .i64 z3) (by rw [EZ3.out])
                have k4 := AUc.out.val (z := 4) (by decide) (v := .int .i64 z4) (by rw [EZ4.out])
                have k5 := AUc.out.val (z := 5) (by decide) (v := .int .i64 z5) (by rw [EZ5.out])
                have k6 := AUc.out.val (z := 6) (by decide) (v := .int .i64 z6) (by rw [EZ6.out])
                have k7 := AUc.out.val (z := 7) (by decide) (v := .int .i64 z7) (by rw [EZ7.out])
                go_upto_region 20 with (at_mapUpdate; refine MS.wpList_putS rfl _ _ _ rfl key8 Try.underlying82 rfl HMc.out.set (k := cval u) ⟨u, HZ.out, rfl⟩ (by rw [HZV.out]; rfl) rfl ?_; intro w6 S6 h6 hu6 hor; have H6 := hid h6; have HU6 := hid hu6; have HOR := hid hor; clear h6 hu6 hor)
                have HS6 : S6 = vals (row' ++ [u]) := by
                  rcases HOR.out with ⟨h, -⟩ | ⟨-, h⟩
                  · exact absurd ((vals_mem (fun c hc => (HS'.out.ok c hc).1.len) HZ.out).1 h) HNU.out
                  · rw [h, vals_snoc]
                subst HS6
                have HNM := own_set_ne HMc.out.own HMc.out.set
                have O6 := own_upd HMc.out.own HU6.out (fun k hk => by simp; exact HNM k hk)
                rw [← Hq.out] at O6
                have hDM : D ≠ M := fun e => by
                  obtain ⟨cs, hcs, -⟩ := AUc.out
                  exact HMc.out.set.ne_cells hcs e.symm
                have hCM : C ≠ M := fun e => by
                  obtain ⟨cs, hcs, -⟩ := HMc.out.cts
                  exact HMc.out.set.ne_cells hcs e.symm
                have hCg : C ≠ g := fun e => by
                  obtain ⟨cs, hcs, -⟩ := HMc.out.cts
                  exact own_cells_ne HMc.out.own hcs (by decide) g rfl e.symm
                have hgM : M ≠ g := fun e => HNM g rfl e.symm
                have C6 := hid (HMc.out.cts.upd HU6.out (by simp; exact hCM))
                have U6 := hid (HMc.out.upd.trans HU6.out (fun t ht => by simp at ht; subst ht; exact .inr MB.out))
                have A6 := AUc.out.upd HU6.out (by simp; exact hDM)
                have HO6 := hid O6
                have HGM := hid hgM
                have HCG := hid hCg
                clear k0 k1 k2 k3 k4 k5 k6 k7 HOR HNM hDM hCM hgM hCg O6
                have k0 := A6.val (z := 0) (by decide) (v := .int .i64 z0) (by rw [EZ0.out])
                have k1 := A6.val (z := 1) (by decide) (v := .int .i64 z1) (by rw [EZ1.out])
                have k2 := A6.val (z := 2) (by decide) (v := .int .i64 z2) (by rw [EZ2.out])
                have k3 := A6.val (z := 3) (by decide) (v := .int .i64 z3) (by rw [EZ3.out])
                have k4 := A6.val (z := 4) (by decide) (v := .int .i64 z4) (by rw [EZ4.out])
                have k5 := A6.val (z := 5) (by decide) (v := .int .i64 z5) (by rw [EZ5.out])
                have k6 := A6.val (z := 6) (by decide) (v := .int .i64 z6) (by rw [EZ6.out])
                have k7 := A6.val (z := 7) (by decide) (v := .int .i64 z7) (by rw [EZ7.out])
                clear A6
                have HZ8 := hid (show cells8 u = [.int .i64 z0, .int .i64 z1, .int .i64 z2, .int .i64 z3, .int .i64 z4, .int .i64 z5, .int .i64 z6, .int .i64 z7] by
                  show [_, _, _, _, _, _, _, _] = _
                  rw [EZ0.out, EZ1.out, EZ2.out, EZ3.out, EZ4.out, EZ5.out, EZ6.out, EZ7.out])
                go_wp2_with (at_builtin; refine wpList_app (W := w6) rfl (.tmp 66) (.tmp 68) 83 rfl w.heap.size 77 i77 (cval zero8) 8 64 Try.underlying83 HI77.out HA77.out HB77.out HC77.out rfl (by decide) (.slice (some ⟨g, 0, none⟩) q cap') q (rows8 row') rfl HO6.out [.int .i64 z0, .int .i64 z1, .int .i64 z2, .int .i64 z3, .int .i64 z4, .int .i64 z5, .int .i64 z6, .int .i64 z7] 77 rfl rfl (by rw [← HZ8.out]; exact cells8_one u) (by omega) (by omega) U6.out.size ?_; intro v7 w7 ho hu7 hl7; have HO7 := hid ho; have HU7 := hid hu7; clear ho hu7 hl7)
                go_roundg (8 - (p + 1))
                case measure => have := Hp.out; omega
                case rel =>
                  refine ⟨p + 1, row' ++ [u], by go_num, by omega, by show _ = _; omega, by show i < _; rw [List.length_append]; have := HIR.out; omega, SP.out, ⟨?_, ?_, ?_, ?_⟩⟩
                  · rw [rows8_snoc, HZ8.out, List.length_append, ← Hq.out]; exact HO7.out
                  · exact H6.out.upd HU7.out (not_mem_own (fun j hj => by cases hj; exact fun e => HGM.out e.symm))
                  · exact C6.out.upd HU7.out (not_mem_own (fun j hj => by cases hj; exact fun e => HCG.out e.symm))
                  · exact U6.out.trans HU7.out (fun t ht => by simp [Value.ownBlock] at ht; subst ht; exact .inr HHB.out)
        · obtain rfl : p = 8 := by omega
          have h5 : i + 1 ≤ 5000 := by
            have h1 := HIR.out
            have h2 := HS'.out.few
            have h3 := HBX.out
            omega
          go_wp2_with fail
          go_roundg (5000 - (i + 1))
          case measure => have := Hi.out; omega
          case rel => exact ⟨i + 1, row', by go_num, by show _ = _; have := Hi.out; omega, HS'.out.next, HM'.out⟩
    · go_wp2_with fail
      go_ret2
      exact ⟨row, i, by rw [← Hm.out]; rfl, HS.out, by rw [← Hm.out]; omega, HM.out.upd⟩
end Go.Proofs.Ytcdladnbcamgjaa.CuM
