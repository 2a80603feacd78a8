/- The walks of cut.check, cut.Whole, cut.Least, cut.Join, cut.Meet, of the laws' inside and Cut, and of cutBegun. -/
import Derived.Test.YtcdladnbcamgjaaCuT
import Derived.Test.YtcdladnbcamgjaaAh
namespace Go.Proofs.Ytcdladnbcamgjaa.Cv
open Go Go.RowKit Go.Proofs.Ytcdladnbcamgjaa.K Go.Proofs.Ytcdladnbcamgjaa.M Go.Proofs.Ytcdladnbcamgjaa.Ev Go.Proofs.Ytcdladnbcamgjaa.Ck Go.Proofs.Ytcdladnbcamgjaa.O Go.Proofs.Ytcdladnbcamgjaa.R Go.Proofs.Ytcdladnbcamgjaa.CL Go.Proofs.Ytcdladnbcamgjaa.CW Go.Proofs.Ytcdladnbcamgjaa.Th Go.Proofs.Ytcdladnbcamgjaa.Cu Go.Proofs.Ytcdladnbcamgjaa.CuT Go.Proofs.Ytcdladnbcamgjaa.Ah

/-- Cuts in a row. -/
def CutRow (w : World) (a : Option Addr) (m : Nat) (l : List Ev) : Prop := ∀ j, j < m → ∃ r g cc c, a = some ⟨r, 0, none⟩ ∧ w.cell? ⟨r, j, none⟩ = some (.slice (some ⟨g, 0, none⟩) 8 cc) ∧ IntRow w (some ⟨g, 0, none⟩) c ∧ VCut l c
theorem CutRow.upd {w w' : World} {a : Option Addr} {m : Nat} {l : List Ev} (h : CutRow w a m l) (u : Upd [] w w') : CutRow w' a m l := fun j hj =>
  let ⟨r, g, cc, c, h1, h2, h3, h4⟩ := h j hj; ⟨r, g, cc, c, h1, u.cell h2 (by simp), h3.upd u, h4⟩

set_option maxHeartbeats 4000000 in
set_option maxRecDepth 100000 in
theorem check_ok (a : Option Addr) (cap : Nat) (l : List Ev) (r : Option Addr) (m mc : Nat) (w : World) (hx : EvRow w a l) (hlc : l.length ≤ cap) (hc : cap ≤ 9223372036854775807) (hn : l.length ≤ 200) (hv : Valid l) (hr : CutRow w r m l) (hm : m ≤ 100) :
    Calls Try.prog 61 #[.slice a l.length cap, .slice r m mc] w fun e w' => e = .returned (.int .i64 0) ∧ Upd [] w w' := by
  have chk := check_any a cap l w hx hlc hc hn
  have cnts := fun (w1 : World) (u : Upd [] w w1) => counts_any a cap l w1 (hx.upd u) hn hv
  obtain ⟨n, hnl⟩ : ∃ n, n = l.length := ⟨_, rfl⟩
  rw [← hnl] at chk cnts hn hlc ⊢
  have HN := hid hnl
  have HV := hid hv
  have HR := hid hr
  have HC := hid cnts
  clear hnl hx hv hr cnts
  go_enter Try.func61, Try.ntmps61
  go_wp2_with fail
  refine chk.mono ?_
  rintro e w1 ⟨c, rfl, hc0, hu⟩
  have hc00 : c = 0 := hc0.2 HV.out
  subst hc00
  have HU1 := hid hu
  clear hu hc0 chk
  go_wp2_with fail
  refine (HC.out w1 HU1.out).mono ?_
  rintro e w2 ⟨C, rfl, hCw, ha, hu⟩
  have A2 := hid ha
  have HU2 := hid (HU1.out.trans hu (by simp))
  clear HC ha hu HU1 hCw
  go_wp2_with fail
  go_loopg [20] m (fun d v20 wr => ∃ (j : Nat), v20 = .int .i64 (j : Int) ∧ j ≤ m ∧ Hid (j + d = m) ∧ Hid (Upd [] w2 wr))
  case atStart => exact ⟨0, rfl, by omega, by show _ = _; omega, Upd.refl _ _⟩
  case round =>
    obtain ⟨j, rfl, hjm, Hj, Hu⟩ := hrel
    by_cases hj : j < m
    · obtain ⟨rb, g, cc, c, rfl, q1, q2, q3⟩ := (HR.out.upd HU2.out).upd Hu.out j hj
      have Q2 := hid q2
      have Q3 := hid q3
      clear q2 q3
      go_wp2_with fail
      go_loopg [29] 8 (fun d v29 wq => ∃ (p : Nat), v29 = .int .i64 (p : Int) ∧ p ≤ 8 ∧ Hid (p + d = 8) ∧ Hid (Upd [] wr wq))
      case atStart => exact ⟨0, rfl, by omega, by show _ = _; omega, Upd.refl _ _⟩
      case round =>
        obtain ⟨p, rfl, hp8, Hp, Hq⟩ := hrel
        by_cases hp : p < 8
        · have hp' : (p : Int) < 8 := by omega
          obtain ⟨y, hy⟩ : ∃ y, y = c.getD p 0 := ⟨_, rfl⟩
          obtain ⟨x, hx⟩ : ∃ x, x = cnt l p n := ⟨_, rfl⟩
          have h0 := Q3.out.low p hp
          have h1 := Q3.out.high p hp
          rw [← HN.out] at h1
          have c1 := IntRow.arr (Q2.out.upd Hq.out) (i := p) (by rw [Q3.out.len]; exact hp)
          rw [← hy] at h0 h1 c1
          rw [← hx] at h1
          have c2 := ((A2.out.upd Hu.out (by simp)).upd Hq.out (by simp)).val hp (v := .int .i64 (x : Int)) (by rw [hx])
          have t1 : decide (y < 0) = false := by rw [decide_eq_false_iff_not]; omega
          have t2 : decide ((x : Int) < y) = false := by rw [decide_eq_false_iff_not]; omega
          clear hx hy
          go_wp2_with fail
          go_roundg (8 - (p + 1))
          case measure => have := Hp.out; omega
          case rel => exact ⟨p + 1, by go_num, by omega, by show _ = _; omega, Hq.out⟩
        · obtain rfl : p = 8 := by omega
          go_wp2_with fail
          go_roundg (m - (j + 1))
          case measure => have := Hj.out; omega
          case rel => exact ⟨j + 1, by go_num, by omega, by show _ = _; omega, Hu.out.trans Hq.out (by simp)⟩
    · go_wp2_with fail
      go_ret
      exact ⟨rfl, HU2.out.trans Hu.out (by simp)⟩

theorem cutRow1 {w : World} {l : List Ev} {g cc : Nat} {c : List Int} (h : IntRow w (some ⟨g, 0, none⟩) c) (hc : VCut l c) :
    CutRow (w.alloc (.cells #[.slice (some ⟨g, 0, none⟩) 8 cc] 22)) (some ⟨w.heap.size, 0, none⟩) 1 l := fun j hj => by
  obtain rfl : j = 0 := by omega
  exact ⟨_, g, cc, c, rfl, (blk_cell (blk_new w _) 0).trans rfl, h.upd ((Upd.refl [] w).alloc _), hc⟩
theorem cutRow2 {w : World} {l : List Ev} {g cc g' cc' : Nat} {c c' : List Int} (h : IntRow w (some ⟨g, 0, none⟩) c) (hc : VCut l c) (h' : IntRow w (some ⟨g', 0, none⟩) c') (hc' : VCut l c') :
    CutRow (w.alloc (.cells #[.slice (some ⟨g, 0, none⟩) 8 cc, .slice (some ⟨g', 0, none⟩) 8 cc'] 22)) (some ⟨w.heap.size, 0, none⟩) 2 l := fun j hj => by
  rcases (show j = 0 ∨ j = 1 by omega) with rfl | rfl
  · exact ⟨_, g, cc, c, rfl, (blk_cell (blk_new w _) 0).trans rfl, h.upd ((Upd.refl [] w).alloc _), hc⟩
  · exact ⟨_, g', cc', c', rfl, (blk_cell (blk_new w _) 1).trans rfl, h'.upd ((Upd.refl [] w).alloc _), hc'⟩

section
variable (a : Option Addr) (cap : Nat) (l : List Ev) (g cc : Nat) (c : List Int) (w : World) (hx : EvRow w a l) (hlc : l.length ≤ cap) (hcp : cap ≤ 9223372036854775807) (hn : l.length ≤ 200) (hv : Valid l) (hc : IntRow w (some ⟨g, 0, none⟩) c) (hvc : VCut l c)
include hx hlc hcp hn hv hc hvc
theorem check1 : Calls Try.prog 61 #[.slice a l.length cap, .slice (some ⟨w.heap.size, 0, none⟩) 1 1] (w.alloc (.cells #[.slice (some ⟨g, 0, none⟩) 8 cc] 22)) fun e w' => e = .returned (.int .i64 0) ∧ Upd [] w w' :=
  (check_ok a cap l (some ⟨w.heap.size, 0, none⟩) 1 1 _ (hx.upd ((Upd.refl [] w).alloc _)) hlc hcp hn hv (cutRow1 hc hvc) (by omega)).mono fun _ _ ⟨he, hu⟩ => ⟨he, ((Upd.refl [] w).alloc _).trans hu (by simp)⟩

set_option maxHeartbeats 4000000 in
set_option maxRecDepth 100000 in
theorem whole_call : Calls Try.prog 33 #[.slice a l.length cap, .slice (some ⟨g, 0, none⟩) 8 cc] w fun e w' => ∃ B : Bool, e = .returned (.tuple #[.bool B, .int .i64 0]) ∧ Hid (B = true ↔ Whole l c) ∧ Upd [] w w' := by
  have c1 := check1 a cap l g cc c w hx hlc hcp hn hv hc hvc
  have c2 := fun (w1 : World) (u : Upd [] w w1) => whole_any a cap l g cc c w1 (hx.upd u) hn hv (hc.upd u) hvc.len
  obtain ⟨n, hnl⟩ : ∃ n, n = l.length := ⟨_, rfl⟩
  rw [← hnl] at c1 c2 ⊢
  have C2 := hid c2
  clear hnl hx hv hc hvc hn hlc hcp c2
  go_enter Try.func33, Try.ntmps33
  go_wp2_with fail
  refine c1.mono ?_
  rintro e w1 ⟨rfl, hu⟩
  have U1 := hid hu
  clear c1 hu
  go_wp2_with fail
  refine (C2.out w1 U1.out).mono ?_
  rintro e w2 ⟨B, rfl, hb, hu⟩
  have U2 := hid (U1.out.trans hu (by simp))
  clear hu C2 U1
  go_wp2_with fail
  go_ret2
  exact ⟨B, rfl, hb, U2.out⟩

set_option maxHeartbeats 4000000 in
set_option maxRecDepth 100000 in
theorem least_call : Calls Try.prog 34 #[.slice a l.length cap, .slice (some ⟨g, 0, none⟩) 8 cc] w fun e w' => ∃ g' c', e = .returned (.tuple #[.slice (some ⟨g', 0, none⟩) 8 c', .int .i64 0]) ∧ IntRow w' (some ⟨g', 0, none⟩) (least l c) ∧ Upd [] w w' := by
  have c1 := check1 a cap l g cc c w hx hlc hcp hn hv hc hvc
  have c2 := fun (w1 : World) (u : Upd [] w w1) => clocks_rows a cap l w1 (hx.upd u) hlc hcp hn hv
  have c3 := fun (w1 : World) (u : Upd [] w w1) => inside_any a cap l g cc c w1 (hx.upd u) hn hv (hc.upd u) hvc.len
  have hmk := make8
  obtain ⟨n, hnl⟩ : ∃ n, n = l.length := ⟨_, rfl⟩
  rw [← hnl] at c1 c2 c3 hn ⊢
  have HN := hid hnl
  have HV := hid hv
  have C2 := hid c2
  have C3 := hid c3
  clear hnl hx hv hc hvc hlc hcp c2 c3
  go_enter Try.func34, Try.ntmps34
  go_wp2_with fail
  refine c1.mono ?_
  rintro e w1 ⟨rfl, hu⟩
  have U1 := hid hu
  clear c1 hu
  go_wp2_with fail
  refine (C2.out w1 U1.out).mono ?_
  rintro e w2 ⟨b, c2', rfl, hr, -, -, hu⟩
  have U2 := hid (U1.out.trans hu (by simp))
  have R2 := hid hr
  clear hu C2 U1 hr
  go_wp2_with fail
  refine (C3.out w2 U2.out).mono ?_
  rintro e w3 ⟨D, rfl, -, ha, hu⟩
  have U3 := hid (U2.out.trans hu (by simp))
  have R3 := hid (R2.out.upd hu)
  have A3 := hid ha
  clear hu C3 U2 R2 ha
  have z0 : Hid (IntRow (w3.alloc (.cells (ints zero8).toArray 3)) (some ⟨w3.heap.size, 0, none⟩) (leastL l c 0)) := by
    refine Arr.row (n := 8) (t := 3) ?_ rfl
    refine arr_new w3 _ 3 8 _ rfl (fun z hz => ?_)
    rw [ints_zero_get z hz]; show some (Value.int .i64 0) = some (.int .i64 (zero8.getD z 0)); rw [zero_get]
  have V3 := hid (U3.out.alloc (.cells (ints zero8).toArray 3))
  have R4 : Hid (Ah.Rows (w3.alloc (.cells (ints zero8).toArray 3)) b l) := R3.out.upd ((Upd.refl [] w3).alloc _)
  have A4 : Hid (Arr (w3.alloc (.cells (ints zero8).toArray 3)) D 4 n (fun k => .bool (inC l c k))) := A3.out.alloc _
  clear R3 A3 U3
  go_wp2_with fail
  go_loopg [10, 30] n (fun d v10 v30 wr => ∃ (j g' c' : Nat), v10 = .slice (some ⟨g', 0, none⟩) 8 c' ∧ v30 = .int .i64 (j : Int) ∧ j ≤ n ∧ Hid (j + d = n) ∧ Hid (IntRow wr (some ⟨g', 0, none⟩) (leastL l c j)) ∧ Hid (Ah.Rows wr b l) ∧ Hid (Arr wr D 4 n (fun k => .bool (inC l c k))) ∧ Hid (Upd [] w wr))
  case atStart => exact ⟨0, _, _, rfl, rfl, by omega, by show _ = _; omega, z0.out, R4.out, A4.out, V3.out⟩
  case round =>
    clear z0 R4 A4 V3
    obtain ⟨j, g', c', rfl, rfl, hjn, Hj, Hl, Hr, Ha, Hu⟩ := hrel
    by_cases hj : j < n
    · have hjl := hid (show j < l.length by rw [← HN.out]; exact hj)
      obtain ⟨h1, g1, c1, rfl, q2, q3, q4⟩ := Hr.out j hjl.out
      have Q3 := hid q3
      have Q4 := hid q4
      clear q3 q4
      obtain ⟨t, ht⟩ : ∃ t, t = inC l c j := ⟨_, rfl⟩
      have q1 := Ha.out.val hj (v := .bool t) (by rw [ht])
      have HT := hid ht
      clear ht
      cases t with
      | false =>
        go_wp2_with fail
        go_roundg (n - (j + 1))
        case measure => have := Hj.out; omega
        case rel => exact ⟨j + 1, g', c', rfl, by go_num, by omega, by show _ = _; omega, by show IntRow _ _ (if inC l c j = true then _ else _); rw [← HT.out]; exact Hl.out, Hr.out, Ha.out, Hu.out⟩
      | true =>
        go_wp2_with fail
        refine (join_any _ 8 _ (leastL l c j) _ 8 _ (clockAt l j) _ Hl.out (least_len HV.out c j (by have := hjl.out; omega)) Q3.out Q4.out (by omega) (by omega)).mono ?_
        rintro e w4 ⟨vj, rfl, hoj, huj⟩
        have hjl8 : (joinL (leastL l c j) (clockAt l j)).length = 8 := by rw [joinL_length, Q4.out, least_len HV.out c j (by have := hjl.out; omega)]; rfl
        obtain ⟨a4, cap4, rfl, -, -, hrow⟩ := intRow_of hoj
        rw [hjl8]
        obtain ⟨x4, hx4, -⟩ := hrow 0 (by omega)
        have hb4 : ∃ g4, a4 = some ⟨g4, 0, none⟩ := by
          obtain ⟨a', cp', e', h1, h2, h3⟩ := own_view hoj
          cases e'
          obtain ⟨g4, e4, _⟩ := h3 0 _ (ints_get _ 0 (by omega))
          exact ⟨g4, e4⟩
        obtain ⟨g4, rfl⟩ := hb4
        have Hrow := hid hrow
        have V := hid huj
        clear hoj huj hjl8 hrow hx4
        go_wp2_with fail
        go_roundg (n - (j + 1))
        case measure => have := Hj.out; omega
        case rel => exact ⟨j + 1, g4, cap4, rfl, by go_num, by omega, by show _ = _; omega, by show IntRow _ _ (if inC l c j = true then _ else _); rw [← HT.out]; exact Hrow.out, Hr.out.upd V.out, Ha.out.upd V.out (by simp), Hu.out.trans V.out (by simp)⟩
    · obtain rfl : j = n := by omega
      go_wp2_with fail
      go_ret2
      exact ⟨g', c', rfl, by show IntRow _ _ (leastL l c l.length); rw [← HN.out]; exact Hl.out, Hu.out⟩
end
end Go.Proofs.Ytcdladnbcamgjaa.Cv
