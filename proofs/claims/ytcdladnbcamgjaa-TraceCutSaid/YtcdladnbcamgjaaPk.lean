/- The walk of trace.Pack: a history as bytes. -/
import Derived.Test.YtcdladnbcamgjaaBy
namespace Go.Proofs.Ytcdladnbcamgjaa.Pk
open Go Go.RowKit Go.Proofs.Ytcdladnbcamgjaa.K Go.Proofs.Ytcdladnbcamgjaa.M Go.Proofs.Ytcdladnbcamgjaa.Ev Go.Proofs.Ytcdladnbcamgjaa.Ck Go.Proofs.Ytcdladnbcamgjaa.O Go.Proofs.Ytcdladnbcamgjaa.Th Go.Proofs.Ytcdladnbcamgjaa.By

def packE (e : Ev) : List Nat := putL (3 * e.place + e.kind - 1) ++ (if e.kind ≠ 1 then putL e.msg else [])
def packU (l : List Ev) (j : Nat) : List Nat := putL l.length ++ (l.take j).flatMap packE
def packL (l : List Ev) : List Nat := putL l.length ++ l.flatMap packE
theorem packU_zero (l : List Ev) : packU l 0 = putL l.length := by simp [packU]
theorem packU_succ (l : List Ev) (j : Nat) (h : j < l.length) : packU l (j + 1) = packU l j ++ packE (ev l j) := by
  unfold packU
  rw [take_succ l j h, List.flatMap_append, List.append_assoc]
  simp
theorem packU_all (l : List Ev) : packU l l.length = packL l := by simp [packU, packL]
theorem packE_len (e : Ev) : 1 ≤ (packE e).length ∧ (packE e).length ≤ 6 := by
  unfold packE
  have h1 := putL_len (3 * e.place + e.kind - 1)
  have h2 := putL_len e.msg
  rw [List.length_append]
  split
  · omega
  · simp; omega
theorem packU_len (l : List Ev) : ∀ j, j ≤ l.length → (packU l j).length ≤ 3 + 6 * j
  | 0, _ => by rw [packU_zero]; exact (putL_len _).2
  | j + 1, h => by
    rw [packU_succ l j (by omega), List.length_append]
    have := packU_len l j (by omega)
    have := packE_len (ev l j)
    omega

theorem put_int (B n : Nat) (x : Int) (v : Value) (m : Nat) (l : List Nat) (w : World) (hx : x = (n : Int)) (hm : m = l.length) (h : w.ownsRow B 5 1 v m (bys l)) (hn : n ≤ 16000) (hl : l.length ≤ 10000) (hB : B ≤ w.heap.size) :
    Calls Try.prog 69 #[v, .int .i64 x] w fun e w' => ∃ v', e = .returned v' ∧ w'.ownsRow B 5 1 v' (l ++ putL n).length (bys (l ++ putL n)) ∧ (∀ k, v'.ownBlock = some k → v.ownBlock = some k ∨ w.heap.size ≤ k) ∧ Upd v.ownBlock.toList w w' := by
  subst hx; subst hm
  exact put_any B n v l w h hn hl hB

set_option maxHeartbeats 8000000 in
set_option maxRecDepth 100000 in
theorem pack_any (a : Option Addr) (cap : Nat) (l : List Ev) (n : Nat) (w : World) (hx : EvRow w a l) (hnl : n = l.length) (hlc : n ≤ cap) (hc : cap ≤ 9223372036854775807) (hn : n ≤ 200) (hv : Valid l) :
    Calls Try.prog 46 #[.slice a n cap] w fun e w' => ∃ v, e = .returned (.tuple #[v, .int .i64 0]) ∧ w'.ownsRow w.heap.size 5 1 v (packL l).length (bys (packL l)) ∧ Upd [] w w' := by
  have chk := check_any a cap l w hx (by omega) hc (by omega)
  rw [← hnl] at chk
  have HX := hid hx
  have HN := hid hnl
  have HV := hid hv
  clear hnl hx hv
  obtain ⟨B, hB⟩ : ∃ B, B = w.heap.size := ⟨_, rfl⟩
  have HBS := hid hB
  rw [← hB]
  clear hB
  go_enter Try.func46, Try.ntmps46
  go_wp2_with fail
  refine chk.mono ?_
  rintro e w1 ⟨c, rfl, hc0, hu⟩
  have hc00 : c = 0 := hc0.2 HV.out
  subst hc00
  have U1 := hid hu
  clear hu hc0 chk
  go_wp2_with fail
  refine (put_int B n n (.slice none 0 0) 0 [] w1 rfl rfl (World.ownsRow_nil _ _ _ _) (by omega) (by simp) (by rw [HBS.out]; exact U1.out.size)).mono ?_
  rintro e w2 ⟨v2, rfl, ho, -, hu⟩
  have O2 := hid ho
  have U2 : Hid (Upd [] w w2) := U1.out.trans hu (fun t ht => by simp [Value.ownBlock] at ht)
  clear ho hu U1
  go_wp2_with fail
  go_loopg [5, 18] n (fun d v5 v18 wr => ∃ (j : Nat), v18 = .int .i64 (j : Int) ∧ j ≤ n ∧ Hid (j + d = n) ∧ Hid (wr.ownsRow B 5 1 v5 (packU l j).length (bys (packU l j))) ∧ Hid (Upd [] w wr))
  case atStart =>
    refine ⟨0, rfl, by omega, by show _ = _; omega, ?_, U2.out⟩
    have := O2.out
    rw [List.nil_append, HN.out] at this
    rw [packU_zero]; exact this
  case round =>
    clear O2 U2
    obtain ⟨j, rfl, hjn, Hj, Ho, Hu⟩ := hrel
    by_cases hj : j < n
    · have hjl := hid (show j < l.length by rw [← HN.out]; exact hj)
      obtain ⟨g, rfl, c0, c1, c2⟩ := HX.out.upd Hu.out j hjl.out
      have hft := HV.out j hjl.out
      have hp8 := hft.p8
      have hk1 := hft.k1
      have hk3 := hft.k3
      have hms := hft.m
      obtain ⟨⟨pl, kd, ms⟩, hev⟩ : ∃ ev, ev = l.getD j noEv := ⟨_, rfl⟩
      rw [← hev] at c0 c1 c2 hp8 hk1 hk3 hms
      simp only at c0 c1 c2 hp8 hk1 hk3 hms
      have HE : Hid (ev l j = ⟨pl, kd, ms⟩) := hev.symm
      clear hev hft
      have hln := packU_len l j (by have := hjl.out; omega)
      obtain ⟨pk, hpk⟩ : ∃ pk, pk = packU l j := ⟨_, rfl⟩
      rw [← hpk] at Ho hln
      have HP := hid hpk
      have HMS := hid hms
      have hws := hid Hu.out.size
      clear hpk hms
      go_wp2_with fail
      refine (put_int B (3 * pl + kd - 1) _ u5 pk.length pk _ (by omega) rfl (Ho.out.alloc _) (by omega) (by omega) (by have := hws.out; have := HBS.out; simp; omega)).mono ?_
      rintro e w6 ⟨v6, rfl, ho, hob, hu⟩
      have O6 := hid ho
      have U6 := hid hu
      have hbk : w6.heap[wr.heap.size]? = some (.cells #[.int .i64 (pl : Int), .int .i64 (kd : Int), .int .i64 (ms : Int)] 31 (0, 0)) :=
        U6.out.blk (blk_new wr _) (fun hm => by have := own_lt Ho.out wr.heap.size (by simpa using hm); omega)
      have d1 : w6.cell? ⟨wr.heap.size, 1, none⟩ = some (.int .i64 (kd : Int)) := (blk_cell hbk 1).trans rfl
      have d2 : w6.cell? ⟨wr.heap.size, 2, none⟩ = some (.int .i64 (ms : Int)) := (blk_cell hbk 2).trans rfl
      have V6 : Hid (Upd [] w w6) := (Hu.out.alloc _).trans U6.out (fun t ht => .inr (by rw [← HBS.out]; exact own_ge Ho.out t (by simpa using ht)))
      clear ho hob hu hbk
      by_cases kd1 : kd = 1
      · have b : ((kd : Int) != 1) = false := by rw [bne_eq_false_iff_eq]; omega
        have KD := hid kd1
        clear kd1
        go_wp2_with fail
        go_roundg (n - (j + 1))
        case measure => have := Hj.out; omega
        case rel =>
          refine ⟨j + 1, by go_num, by omega, by show _ = _; omega, ?_, V6.out⟩
          have e : packU l (j + 1) = pk ++ putL (3 * pl + kd - 1) := by
            rw [packU_succ l j hjl.out, HE.out, ← HP.out]
            simp only [packE, KD.out]; simp
          rw [e]; exact O6.out
      · have b : ((kd : Int) != 1) = true := by rw [bne_iff_ne]; omega
        have hms : ms ≤ 999 := HMS.out kd1
        have KD := hid kd1
        clear kd1
        have hl6 := putL_len (3 * pl + kd - 1)
        have hw6 := hid V6.out.size
        go_wp2_with fail
        refine (put_int B ms _ v6 _ (pk ++ putL (3 * pl + kd - 1)) _ rfl rfl O6.out (by omega) (by rw [List.length_append]; omega) (by have := hw6.out; have := HBS.out; omega)).mono ?_
        rintro e w7 ⟨v7, rfl, ho, hob, hu⟩
        have O7 := hid ho
        have V7 : Hid (Upd [] w w7) := V6.out.trans hu (fun t ht => .inr (by rw [← HBS.out]; exact own_ge O6.out t (by simpa using ht)))
        clear ho hob hu
        go_wp2_with fail
        go_roundg (n - (j + 1))
        case measure => have := Hj.out; omega
        case rel =>
          refine ⟨j + 1, by go_num, by omega, by show _ = _; omega, ?_, V7.out⟩
          have e : packU l (j + 1) = pk ++ putL (3 * pl + kd - 1) ++ putL ms := by
            rw [packU_succ l j hjl.out, HE.out, ← HP.out]
            simp only [packE]
            rw [if_pos KD.out, List.append_assoc]
          rw [e]; exact O7.out
    · obtain rfl : j = n := by omega
      go_wp2_with fail
      go_ret2
      refine ⟨_, rfl, ?_, Hu.out⟩
      have := Ho.out
      rw [HN.out, packU_all] at this
      exact this
end Go.Proofs.Ytcdladnbcamgjaa.Pk
