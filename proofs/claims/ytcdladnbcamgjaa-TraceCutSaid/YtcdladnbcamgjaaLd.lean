/- The walks of trace.Led and of slices.Equal at alike events. -/
import Derived.Test.YtcdladnbcamgjaaLdT
import Derived.Test.YtcdladnbcamgjaaLh
import Derived.Test.YtcdladnbcamgjaaHa
import Derived.Laws.StructEq
namespace Go.Proofs.Ytcdladnbcamgjaa.Ld
open Go Go.RowKit Go.Proofs.Ytcdladnbcamgjaa.K Go.Proofs.Ytcdladnbcamgjaa.M Go.Proofs.Ytcdladnbcamgjaa.Ev Go.Proofs.Ytcdladnbcamgjaa.Ck Go.Proofs.Ytcdladnbcamgjaa.O Go.Proofs.Ytcdladnbcamgjaa.CL Go.Proofs.Ytcdladnbcamgjaa.CW Go.Proofs.Ytcdladnbcamgjaa.Th Go.Proofs.Ytcdladnbcamgjaa.Ah Go.Proofs.Ytcdladnbcamgjaa.Hi Go.Proofs.Ytcdladnbcamgjaa.Ha Go.Proofs.Ytcdladnbcamgjaa.Lh Go.Proofs.Ytcdladnbcamgjaa.LdT

theorem held31 : Try.prog.stoodInHeld 31 = false := by kernel_rfl
theorem guard31 : Try.prog.eqGuardType Try.prog.depth 31 = false := by kernel_rfl
theorem fields31 : Try.prog.fieldsOf 31 = #[{ name := "Place", type := 3, offset := 0, embedded := false, tag := "", pkgPath := "", byteOffset := 0 }, { name := "Kind", type := 3, offset := 1, embedded := false, tag := "", pkgPath := "", byteOffset := 8 }, { name := "Msg", type := 3, offset := 2, embedded := false, tag := "", pkgPath := "", byteOffset := 16 }] := by
  unfold Program.fieldsOf; rw [Try.underlying31]
theorem struct31 : Try.prog.underlying 31 = some (.struct (Try.prog.fieldsOf 31)) := by rw [fields31]; exact Try.underlying31
theorem neq_ev (a b c a' b' c' : Int) (w : World) : (binOp .neq 31 (.agg #[.int .i64 a, .int .i64 b, .int .i64 c]) (.agg #[.int .i64 a', .int .i64 b', .int .i64 c'])).run Try.prog w = .ok (.bool (!(a == a' && (b == b' && c == c')))) w := by
  have z3 : ∀ w, (Go.sizeOf 3).run Try.prog w = .ok 1 w := Try.sizeOf3
  have a3 : ∀ w, (isAgg 3).run Try.prog w = .ok false w := Try.isAgg3
  rw [run_neq_struct, run_equalIn_struct w 9999 31 _ _ struct31 held31, fields31]
  have q : ∀ (x y : Int) (w : World), (Op.equalIn 9999 3 (.int .i64 x) (.int .i64 y)).run Try.prog w = .ok (x == y) w := fun x y w => run_equalIn_int w 9998 3 .i64 .i64 x y Try.underlying3
  simp [Op.eqFields, part, Sem.run_bind, a3, q, Result.andThen]
  cases h1 : (a == a') <;> cases h2 : (b == b') <;> cases h3 : (c == c') <;> simp_all

set_option maxHeartbeats 4000000 in
set_option maxRecDepth 100000 in
theorem equal_ev (a b : Option Addr) (n c d : Nat) (l : List Ev) (w : World) (ha : EvRow w a l) (hb : EvRow w b l) (hl : l.length = n) (hn : n ≤ 1000) :
    Calls Try.prog 48 #[.slice a n c, .slice b n d] w fun e w' => e = .returned (.bool true) ∧ ∃ q, w' = w.drewN q := by
  have HA := hid ha
  have HB := hid hb
  have HL := hid hl
  clear ha hb hl
  go_enter Try.func48, Try.ntmps48
  go_wp2_with fail
  go_loopg [13] n (fun d v13 wr => ∃ (i : Nat), v13 = .int .i64 (i : Int) ∧ i ≤ n ∧ Hid (i + d = n) ∧ Hid (∃ q, wr = w.drewN q))
  case atStart => exact ⟨0, rfl, by omega, by show _ = _; omega, ⟨0, rfl⟩⟩
  case round =>
    obtain ⟨i, rfl, hin, Hi, Hu⟩ := hrel
    obtain ⟨q, rfl⟩ := Hu.out
    by_cases hi : i < n
    · have hi' : (i : Int) < (n : Int) := by omega
      obtain ⟨g, rfl, c0, c1, c2⟩ := HA.out i (by rw [HL.out]; exact hi)
      obtain ⟨g', rfl, d0, d1, d2⟩ := HB.out i (by rw [HL.out]; exact hi)
      obtain ⟨⟨pl, kd, ms⟩, hev⟩ : ∃ ev, ev = l.getD i noEv := ⟨_, rfl⟩
      rw [← hev] at c0 c1 c2 d0 d1 d2
      simp only at c0 c1 c2 d0 d1 d2
      clear hev
      have hne : ∀ w, (binOp .neq 31 (.agg #[.int .i64 (pl : Int), .int .i64 (kd : Int), .int .i64 (ms : Int)]) (.agg #[.int .i64 (pl : Int), .int .i64 (kd : Int), .int .i64 (ms : Int)])).run Try.prog w = .ok (.bool false) w := fun w => by
        rw [neq_ev]; simp
      go_wp2_with fail
      go_quiet (fail)
      go_wp2_with fail
      go_roundg (n - (i + 1))
      case measure => have := Hi.out; omega
      case rel => exact ⟨i + 1, by go_num, by omega, by show _ = _; omega, ⟨q + nq, by show _ = _; simp⟩⟩
    · obtain rfl : i = n := by omega
      go_wp2_with fail
      go_ret
      exact ⟨rfl, q, rfl⟩

set_option maxHeartbeats 8000000 in
set_option maxRecDepth 100000 in
theorem led_any (a : Option Addr) (cap : Nat) (l : List Ev) (n i : Nat) (w : World) (hx : EvRow w a l) (hnl : n = l.length) (hlc : n ≤ cap) (hc : cap ≤ 9223372036854775807) (hn : n ≤ 200) (hv : Valid l) (hi : i < n) :
    Calls Try.prog 55 #[.slice a n cap, .int .i64 (i : Int)] w fun e w' => ∃ v, e = .returned (.tuple #[v, .int .i64 0]) ∧ w'.ownsRow w.heap.size 31 3 v (ledL l i).length (evCells (ledL l i)) ∧ Upd [] w w' := by
  obtain ⟨i31, hi31, hz31a, hz31b, hz31c⟩ := info_parts info31
  have HI31 := hid hi31
  have HA31 := hid hz31a
  have HB31 := hid hz31b
  have HC31 := hid hz31c
  have ck := clocks_rows a cap l w hx (by omega) hc (by omega) hv
  rw [← hnl] at ck
  have HX := hid hx
  have HN := hid hnl
  have HV := hid hv
  clear hnl hx hv hi31 hz31a hz31b hz31c
  obtain ⟨B, hB⟩ : ∃ B, B = w.heap.size := ⟨_, rfl⟩
  have HBS := hid hB
  rw [← hB]
  clear hB
  have hin : (i : Int) < (n : Int) := by omega
  have d1 : decide ((i : Int) < 0) = false := by rw [decide_eq_false_iff_not]; omega
  have d2 : decide ((n : Int) ≤ (i : Int)) = false := by rw [decide_eq_false_iff_not]; omega
  have d3 : decide (n ≤ i) = false := by rw [decide_eq_false_iff_not]; omega
  have IL := hid (show i < l.length by rw [← HN.out]; exact hi)
  go_enter Try.func55, Try.ntmps55
  go_wp2_with fail
  refine ck.mono ?_
  rintro e w1 ⟨b, c, rfl, hr, hlc1, hc1, hu⟩
  have R1 := hid hr
  have U1 := hid hu
  clear hr hu ck
  obtain ⟨B1, hB1⟩ : ∃ B1, B1 = w1.heap.size := ⟨_, rfl⟩
  have HB1 := hid hB1
  clear hB1
  go_wp2_with fail
  go_loopg [8, 28] (i + 1) (fun d v8 v28 wr => ∃ (j : Nat), v28 = .int .i64 (j : Int) ∧ j ≤ i + 1 ∧ Hid (j + d = i + 1) ∧ Hid (wr.ownsRow B1 31 3 v8 (sub l (ledS l i) j).length (evCells (sub l (ledS l i) j))) ∧ Hid (Upd [] w1 wr))
  case atStart => exact ⟨0, rfl, by omega, by show _ = _; omega, World.ownsRow_nil _ _ _ _, Upd.refl _ _⟩
  case round =>
    obtain ⟨j, rfl, hji, Hj, Ho, Hu⟩ := hrel
    by_cases hj : j < i + 1
    · have hjl := hid (show j < l.length by have := IL.out; omega)
      obtain ⟨g, rfl, c0, c1, c2⟩ := (HX.out.upd U1.out).upd Hu.out j hjl.out
      obtain ⟨⟨pl, kd, ms⟩, hev⟩ : ∃ ev, ev = l.getD j noEv := ⟨_, rfl⟩
      rw [← hev] at c0 c1 c2
      simp only at c0 c1 c2
      have HE : Hid (ev l j = ⟨pl, kd, ms⟩) := hev.symm
      clear hev
      have hsl := sub_le l (ledS l i) j
      obtain ⟨sb, hsb⟩ : ∃ sb, sb = sub l (ledS l i) j := ⟨_, rfl⟩
      rw [← hsb] at Ho hsl
      have HS := hid hsb
      clear hsb
      have hjn : (j : Int) < (n : Int) := by omega
      have hji' : (j : Int) < (i : Int) + 1 := by omega
      have hws := hid Hu.out.size
      obtain ⟨h1, g1, k1, rfl, q1, r1, s1⟩ := R1.out.upd Hu.out i IL.out
      obtain ⟨h2, g2, k2, e2, q2, r2, s2⟩ := R1.out.upd Hu.out j hjl.out
      cases e2
      have P1 := hid r1
      have P2 := hid r2
      have P3 := hid s1
      have P4 := hid s2
      clear r1 r2 s1 s2
      by_cases hij : j = i
      · have b : ((j : Int) == (i : Int)) = true := by rw [beq_iff_eq]; omega
        have HSJ : Hid (ledS l i j = true) := by show _ = _; simp [ledS, hij]
        have HIJ := hid hij
        clear hij
        go_wp2_with fail
        go_quiet (fail)
        obtain ⟨W1, hW1⟩ : ∃ W1, W1 = wr.drewN nq := ⟨_, rfl⟩
        have V1 : Hid (Upd [] wr W1) := by rw [hW1]; exact (Upd.refl [] wr).drewN nq
        have O1 : Hid (W1.ownsRow B1 31 3 u8 sb.length (evCells sb)) := own_new Ho.out V1.out
        have e0 := V1.out.cell c0 (by simp)
        have e1 := V1.out.cell c1 (by simp)
        have e2 := V1.out.cell c2 (by simp)
        have hws1 := hid (Nat.le_trans hws.out V1.out.size)
        rw [← hW1]
        clear hW1 c0 c1 c2 q1 q2
        go_wp2_with (first | (at_builtin; refine wpList_app (W := W1) rfl (.tmp 45) (.tmp 50) 24 rfl B1 31 i31 _ 3 24 Try.underlying24 HI31.out HA31.out HB31.out HC31.out rfl (by decide) u8 sb.length (evCells sb) rfl O1.out [.int .i64 (pl : Int), .int .i64 (kd : Int), .int .i64 (ms : Int)] 31 (by first | rfl | (rw [World.size_alloc]; rfl)) rfl (evVals_one ⟨pl, kd, ms⟩) (by omega) (by omega) (by have := hws1.out; have := HB1.out; omega) ?_; intro v6 w6 hw6 hu6 hl6; have HW6 := hid hw6; have HU6 := hid hu6; clear hw6 hu6 hl6))
        go_roundg (i + 1 - (j + 1))
        case measure => have := Hj.out; omega
        case rel =>
          have e : sub l (ledS l i) (j + 1) = sb ++ [⟨pl, kd, ms⟩] := by rw [sub_yes HSJ.out, ← HS.out, HE.out]
          refine ⟨j + 1, by go_num, by omega, by show _ = _; omega, ?_, (Hu.out.trans V1.out (by simp)).trans HU6.out (fun t ht => .inr ?_)⟩
          · rw [e, List.length_append, evCells_snoc]; exact HW6.out
          · rw [← HB1.out]; exact own_ge Ho.out t (by simpa using ht)
      · have b : ((j : Int) == (i : Int)) = false := by rw [beq_eq_false_iff_ne]; omega
        obtain ⟨A, hA⟩ : ∃ A, lessL (clockAt l j) (clockAt l i) = A := ⟨_, rfl⟩
        have HA := hid hA
        have HIJ := hid hij
        clear hA hij
        cases A with
        | true =>
          have HSJ : Hid (ledS l i j = true) := by
            have h : aheadL l j i = true := HA.out
            show _ = _; simp [ledS, h]
          go_wp2_with fail
          go_quiet ((go_at_call 26; exact Calls.quiet_of_same (less_h (by assumption) (by assumption) (by assumption) (by assumption) (by assumption))))
          obtain ⟨W1, hW1⟩ : ∃ W1, W1 = wr.drewN nq := ⟨_, rfl⟩
          have V1 : Hid (Upd [] wr W1) := by rw [hW1]; exact (Upd.refl [] wr).drewN nq
          have O1 : Hid (W1.ownsRow B1 31 3 u8 sb.length (evCells sb)) := own_new Ho.out V1.out
          have e0 := V1.out.cell c0 (by simp)
          have e1 := V1.out.cell c1 (by simp)
          have e2 := V1.out.cell c2 (by simp)
          have hws1 := hid (Nat.le_trans hws.out V1.out.size)
          rw [← hW1]
          clear hW1 c0 c1 c2 q1 q2
          go_wp2_with (first | (at_builtin; refine wpList_app (W := W1) rfl (.tmp 45) (.tmp 50) 24 rfl B1 31 i31 _ 3 24 Try.underlying24 HI31.out HA31.out HB31.out HC31.out rfl (by decide) u8 sb.length (evCells sb) rfl O1.out [.int .i64 (pl : Int), .int .i64 (kd : Int), .int .i64 (ms : Int)] 31 (by first | rfl | (rw [World.size_alloc]; rfl)) rfl (evVals_one ⟨pl, kd, ms⟩) (by omega) (by omega) (by have := hws1.out; have := HB1.out; omega) ?_; intro v6 w6 hw6 hu6 hl6; have HW6 := hid hw6; have HU6 := hid hu6; clear hw6 hu6 hl6))
          go_roundg (i + 1 - (j + 1))
          case measure => have := Hj.out; omega
          case rel =>
            have e : sub l (ledS l i) (j + 1) = sb ++ [⟨pl, kd, ms⟩] := by rw [sub_yes HSJ.out, ← HS.out, HE.out]
            refine ⟨j + 1, by go_num, by omega, by show _ = _; omega, ?_, (Hu.out.trans V1.out (by simp)).trans HU6.out (fun t ht => .inr ?_)⟩
            · rw [e, List.length_append, evCells_snoc]; exact HW6.out
            · rw [← HB1.out]; exact own_ge Ho.out t (by simpa using ht)
        | false =>
          have HSJ : Hid (ledS l i j = false) := by
            have h : aheadL l j i = false := HA.out
            show _ = _; simp [ledS, h, HIJ.out]
          go_wp2_with fail
          go_quiet ((go_at_call 26; exact Calls.quiet_of_same (less_h (by assumption) (by assumption) (by assumption) (by assumption) (by assumption))))
          go_wp2_with fail
          go_roundg (i + 1 - (j + 1))
          case measure => have := Hj.out; omega
          case rel => exact ⟨j + 1, by go_num, by omega, by show _ = _; omega, by rw [sub_no HSJ.out, ← HS.out]; exact own_new Ho.out ((Upd.refl [] wr).drewN nq), Hu.out.drewN _⟩
    · obtain rfl : j = i + 1 := by omega
      go_wp2_with fail
      go_ret2
      exact ⟨u8, rfl, own_mono Ho.out (by have := HB1.out; have := HBS.out; have := U1.out.size; omega), U1.out.trans Hu.out (by simp)⟩

theorem led_at {w : World} {b : Option Addr} {cap : Nat} {l : List Ev} {n : Nat} (h : HistAt w b cap l n) (i : Nat) (x : Int) (hx : x = (i : Int)) (hi : i < n) :
    Calls Try.prog 55 #[.slice b n cap, .int .i64 x] w fun e w' => ∃ a m c, e = .returned (.tuple #[.slice a m c, .int .i64 0]) ∧ Hid (HistAt w' a c (ledL l i) m) ∧ 1 ≤ m ∧ m ≤ 60 ∧ Upd [] w w' := by
  subst hx
  have hil : i < l.length := by rw [← h.len]; exact hi
  refine (led_any b cap l n i w h.row h.len h.lc h.c (by have := h.small; omega) h.valid hi).mono ?_
  rintro e w' ⟨v, rfl, ho, hu⟩
  obtain ⟨a, c, rfl, h1, h2, hr⟩ := evRow_of ho
  have hs := sub_le l (ledS l i) (i + 1)
  have hl := led_last l i
  have hle : (ledL l i).length ≤ 60 := by have := h.small; unfold ledL; omega
  exact ⟨a, (ledL l i).length, c, rfl, ⟨hr, rfl, h1, h2, hle, led_valid h.valid hil⟩, by omega, hle, hu⟩
end Go.Proofs.Ytcdladnbcamgjaa.Ld
