/- Bytes: rows of them, what trace.put writes, and its walk. -/
import Derived.Test.YtcdladnbcamgjaaHi
import Derived.Test.YtcdladnbcamgjaaTh
import Derived.Test.YtcdladnbcamgjaaCu
namespace Go.Proofs.Ytcdladnbcamgjaa.By
open Go Go.RowKit Go.Proofs.Ytcdladnbcamgjaa.K Go.Proofs.Ytcdladnbcamgjaa.M Go.Proofs.Ytcdladnbcamgjaa.Ev Go.Proofs.Ytcdladnbcamgjaa.Ck Go.Proofs.Ytcdladnbcamgjaa.O Go.Proofs.Ytcdladnbcamgjaa.Th

def bys (l : List Nat) : List Value := l.map (fun b : Nat => Value.int .u8 (b : Int))
theorem bys_length (l : List Nat) : (bys l).length = l.length := by simp [bys]
theorem bys_append (l m : List Nat) : bys (l ++ m) = bys l ++ bys m := by simp [bys]
theorem bys_get (l : List Nat) (i : Nat) (h : i < l.length) : (bys l)[i]? = some (.int .u8 ((l.getD i 0 : Nat) : Int)) := by simp [bys, List.getD_eq_getElem?_getD, h]
/-- The slice's cells hold these bytes. -/
def ByRow (w : World) (a : Option Addr) (l : List Nat) : Prop := ∀ j, j < l.length → ∃ x, a = some x ∧ w.cell? (x.add j) = some (.int .u8 ((l.getD j 0 : Nat) : Int))
theorem ByRow.upd {w w' : World} {a : Option Addr} {l : List Nat} (h : ByRow w a l) (u : Upd [] w w') : ByRow w' a l := fun i hi =>
  let ⟨x, e, hc⟩ := h i hi; ⟨x, e, u.cell hc (by simp)⟩
theorem byRow_of {w : World} {base : Nat} {v : Value} {n : Nat} {l : List Nat} (h : w.ownsRow base 5 1 v n (bys l)) : ∃ a cap, v = .slice a n cap ∧ l.length = n ∧ n ≤ cap ∧ cap ≤ 9223372036854775807 ∧ ByRow w a l := by
  have hl : l.length = n := by have := h.1; rw [bys_length] at this; omega
  obtain ⟨a, cap, rfl, h1, h2, hc⟩ := own_view h
  refine ⟨a, cap, rfl, hl, h1, h2, fun i hi => ?_⟩
  obtain ⟨g, rfl, _, c, _⟩ := hc i _ (bys_get l i hi)
  refine ⟨_, rfl, ?_⟩
  rw [Cu.add0]; exact c
theorem info5 : (Try.prog.info? 5).map (fun i => (i.zero, i.size, i.bytes)) = some (some (.int .u8 0), 1, 1) := by kernel_rfl

/-- What put writes. -/
def putL (n : Nat) : List Nat := if n < 128 then [n] else if n < 16384 then [n % 128 + 128, n / 128] else [n % 128 + 128, n / 128 % 128 + 128, n / 16384]
theorem putL_small (n : Nat) (h : n < 128) : putL n = [n] := by unfold putL; rw [if_pos h]
theorem putL_big (n : Nat) (h : 128 ≤ n) (h2 : n < 16384) : putL n = (n % 128 + 128) :: putL (n / 128) := by
  rw [putL_small (n / 128) (by omega)]
  unfold putL; rw [if_neg (by omega), if_pos h2]
theorem putL_len (n : Nat) : 1 ≤ (putL n).length ∧ (putL n).length ≤ 3 := by unfold putL; split; (simp); split <;> simp

set_option maxHeartbeats 4000000 in
set_option maxRecDepth 100000 in
theorem put_any (B n : Nat) (v : Value) (l : List Nat) (w : World) (h : w.ownsRow B 5 1 v l.length (bys l)) (hn : n ≤ 16000) (hl : l.length ≤ 10000) (hB : B ≤ w.heap.size) :
    Calls Try.prog 69 #[v, .int .i64 (n : Int)] w fun e w' => ∃ v', e = .returned v' ∧ w'.ownsRow B 5 1 v' (l ++ putL n).length (bys (l ++ putL n)) ∧ (∀ k, v'.ownBlock = some k → v.ownBlock = some k ∨ w.heap.size ≤ k) ∧ Upd v.ownBlock.toList w w' := by
  obtain ⟨i5, hi5, hz5a, hz5b, hz5c⟩ := info_parts info5
  have HI5 := hid hi5
  have HA5 := hid hz5a
  have HB5 := hid hz5b
  have HC5 := hid hz5c
  have HO := hid h
  clear hi5 hz5a hz5b hz5c h
  go_enter Try.func69, Try.ntmps69
  go_wp2_with fail
  go_loopg [0, 1] n (fun d v0 v1 wr => ∃ (m : Nat) (k : List Nat), v1 = .int .i64 (m : Int) ∧ m ≤ 16000 ∧ k.length + (putL m).length ≤ 10003 ∧ Hid (m = d) ∧ Hid (k ++ putL m = l ++ putL n) ∧ Hid (wr.ownsRow B 5 1 v0 k.length (bys k)) ∧ Hid (∀ b, v0.ownBlock = some b → v.ownBlock = some b ∨ w.heap.size ≤ b) ∧ Hid (Upd v.ownBlock.toList w wr))
  case atStart => exact ⟨n, l, rfl, hn, by have := putL_len n; omega, rfl, rfl, HO.out, hid (fun b hb => .inl hb), Upd.refl _ _⟩
  case round =>
    clear HO
    obtain ⟨m, k, rfl, hm, hk, Hm, Hk, Ho, Hb, Hu⟩ := hrel
    have hpl := putL_len m
    have hws := hid Hu.out.size
    by_cases h128 : 128 ≤ m
    · have hd : decide (128 ≤ (m : Int)) = true := by rw [decide_eq_true_eq]; omega
      have hb := putL_big m h128 (by omega)
      have HB := hid hb
      have H128 := hid h128
      clear hb h128
      go_wp2_with (first | (at_builtin; refine wpList_app (W := wr) rfl (.tmp 7) (.tmp 12) 57 rfl B 5 i5 _ 1 1 Try.underlying57 HI5.out HA5.out HB5.out HC5.out rfl (by decide) u0 k.length (bys k) rfl Ho.out [.int .u8 ((m : Int) % 128 + 128)] 5 rfl rfl (by intro u hu; simp at hu; subst hu; rfl) (by omega) (by omega) (by have := hws.out; omega) ?_; intro v6 w6 hw6 hu6 hl6; have HW6 := hid hw6; have HU6 := hid hu6; have HL6 := hid hl6; clear hw6 hu6 hl6))
      go_roundg (m / 128)
      case measure => have := Hm.out; have := H128.out; omega
      case rel =>
        have e : ((m : Int) / 128) = ((m / 128 : Nat) : Int) := by omega
        have e2 : (m : Int) % 128 + 128 = ((m % 128 + 128 : Nat) : Int) := by omega
        have hlen : (putL m).length = (putL (m / 128)).length + 1 := by rw [HB.out, List.length_cons]
        refine ⟨m / 128, k ++ [m % 128 + 128], by rw [e], by omega, by rw [List.length_append, List.length_singleton]; omega, rfl, ?_, ?_, hid (fun b hb => ?_), Hu.out.trans HU6.out (fun t ht => ?_)⟩
        · show _ = _
          rw [← Hk.out, HB.out, List.append_assoc]; rfl
        · rw [List.length_append, bys_append]
          have h6 := HW6.out
          rw [e2] at h6
          exact h6
        · rcases HL6.out b hb with h | h
          · exact Hb.out b h
          · exact .inr (Nat.le_trans hws.out h)
        · rcases Hb.out t (by simpa using ht) with h | h
          · exact .inl (by simp [h])
          · exact .inr h
    · have hd : decide (128 ≤ (m : Int)) = false := by rw [decide_eq_false_iff_not]; omega
      have hb := putL_small m (by omega)
      have HB := hid hb
      have hlt : m < 128 := by omega
      clear hb h128
      go_wp2_with (first | (at_builtin; refine wpList_app (W := wr) rfl (.tmp 16) (.tmp 19) 57 rfl B 5 i5 _ 1 1 Try.underlying57 HI5.out HA5.out HB5.out HC5.out rfl (by decide) u0 k.length (bys k) rfl Ho.out [.int .u8 (m : Int)] 5 rfl rfl (by intro u hu; simp at hu; subst hu; rfl) (by omega) (by omega) (by have := hws.out; omega) ?_; intro v6 w6 hw6 hu6 hl6; have HW6 := hid hw6; have HU6 := hid hu6; have HL6 := hid hl6; clear hw6 hu6 hl6))
      go_ret
      have hk2 := Hk.out
      rw [HB.out] at hk2
      refine ⟨v6, rfl, ?_, fun b hb => ?_, Hu.out.trans HU6.out (fun t ht => ?_)⟩
      · rw [← hk2, List.length_append, bys_append]; exact HW6.out
      · rcases HL6.out b hb with h | h
        · exact Hb.out b h
        · exact .inr (Nat.le_trans hws.out h)
      · rcases Hb.out t (by simpa using ht) with h | h
        · exact .inl (by simp [h])
        · exact .inr h
end Go.Proofs.Ytcdladnbcamgjaa.By
