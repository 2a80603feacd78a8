/- The walks of bytes.Equal at alike bytes, and of traceBegun. -/
import Derived.Test.YtcdladnbcamgjaaPk
import Derived.Laws.BytesArg
namespace Go.Proofs.Ytcdladnbcamgjaa.Be
open Go Go.RowKit Go.Proofs.Ytcdladnbcamgjaa.K Go.Proofs.Ytcdladnbcamgjaa.Ev Go.Proofs.Ytcdladnbcamgjaa.Ck Go.Proofs.Ytcdladnbcamgjaa.Th Go.Proofs.Ytcdladnbcamgjaa.By Go.Proofs.Ytcdladnbcamgjaa.Pk

theorem conv_bytes (w : World) (a : Option Addr) (len cap : Nat) (l : List Nat) (hlen : l.length = len) (h : ByRow w a l) :
    (convert 57 9 (.slice a len cap)).run Try.prog w = .ok (.string (strOfNums (l.map (fun b : Nat => (b : Int))))) w := by
  rcases Nat.eq_zero_or_pos len with h0 | h0
  · subst h0
    have : l = [] := List.eq_nil_of_length_eq_zero hlen
    subst this
    rw [run_convert_bytes_string w 57 9 5 _ 0 cap Try.underlying57 Try.underlying5 Try.underlying9]
    cases a <;> simp [Conv.bytesToString, loadCells]
    all_goals rfl
  · obtain ⟨x, rfl, _⟩ := h 0 (by omega)
    have hl : (loadCells x len).run Try.prog w = .ok ((l.map (fun b : Nat => (b : Int))).map (Value.int .u8)).toArray w := by
      have := run_loadCells_list (P := Try.prog) w x ((l.map (fun b : Nat => (b : Int))).map (Value.int .u8)) (fun j v hj => by
        have hjl : j < l.length := by
          have := (List.getElem?_eq_some_iff.1 hj).1
          simpa using this
        obtain ⟨x', e, hc⟩ := h j hjl
        cases e
        rw [hc]
        simp [List.getElem?_eq_getElem hjl] at hj
        subst hj
        simp [List.getD_eq_getElem?_getD, hjl])
      simpa [hlen] using this
    rw [run_convert_bytes_string w 57 9 5 _ len cap Try.underlying57 Try.underlying5 Try.underlying9, run_bytesToString w _ len cap _ hl, foldl_push_bytes]
    simp [strOfNums, ByteArray.empty, ByteArray.emptyWithCapacity]
    rfl

set_option maxHeartbeats 2000000 in
theorem bytesEq (a b : Option Addr) (n c d : Nat) (l : List Nat) (w : World) (ha : ByRow w a l) (hb : ByRow w b l) (hl : l.length = n) :
    Calls Try.prog 49 #[.slice a n c, .slice b n d] w fun e w' => e = .returned (.bool true) ∧ w' = w := by
  have k1 := conv_bytes w a n c l hl ha
  have k2 := conv_bytes w b n d l hl hb
  obtain ⟨s, hs⟩ : ∃ s, s = strOfNums (l.map (fun b : Nat => (b : Int))) := ⟨_, rfl⟩
  rw [← hs] at k1 k2
  clear hs ha hb hl
  go_enter Try.func49, Try.ntmps49
  go_wp2_with fail
  go_ret
  exact ⟨ret_bool (by simp), rfl⟩

def one : List Ev := [⟨2, 1, 0⟩]
theorem one_valid : Valid one := valid_snoc (l := []) valid_nil ⟨by simp, by simp, by simp, by simp, by simp, by simp, by simp⟩
theorem one_row (w : World) : EvRow (w.alloc (.cells #[.int .i64 2, .int .i64 1, .int .i64 0] 31)) (some ⟨w.heap.size, 0, none⟩) one := by
  have h := blk_new w (.cells #[.int .i64 2, .int .i64 1, .int .i64 0] 31)
  intro i hi
  match i, hi with
  | 0, _ => exact ⟨_, rfl, (blk_cell h _).trans rfl, (blk_cell h _).trans rfl, (blk_cell h _).trans rfl⟩
theorem begun_pack (w : World) : Calls Try.prog 46 #[.slice (some ⟨w.heap.size, 0, none⟩) 1 1] (w.alloc (.cells #[.int .i64 2, .int .i64 1, .int .i64 0] 31)) fun e w' =>
    ∃ a c, e = .returned (.tuple #[.slice a 2 c, .int .i64 0]) ∧ Hid (ByRow w' a [1, 6]) ∧ Upd [] w w' :=
  (pack_any _ 1 one 1 _ (one_row w) rfl (by decide) (by decide) (by decide) one_valid).mono fun e w' ⟨v, he, ho, hu⟩ => by
    have e2 : packL one = [1, 6] := by decide
    rw [e2] at ho
    obtain ⟨a, c, rfl, _, _, _, hr⟩ := byRow_of ho
    exact ⟨a, c, he, hr, ((Upd.refl [] w).alloc _).trans hu (by simp)⟩
theorem begun_eq (w : World) (a : Option Addr) (c : Nat) (h : ByRow w a [1, 6]) : Calls Try.prog 49 #[.slice a 2 c, .slice (some ⟨w.heap.size, 0, none⟩) 2 2] (w.alloc (.cells #[.int .u8 1, .int .u8 6] 5)) fun e w' => e = .returned (.bool true) ∧ Upd [] w w' := by
  refine (bytesEq a _ 2 c 2 [1, 6] _ (h.upd ((Upd.refl [] w).alloc _)) ?_ rfl).mono ?_
  · have hb := blk_new w (.cells #[.int .u8 1, .int .u8 6] 5)
    intro i hi
    refine ⟨_, rfl, ?_⟩
    rw [Cu.add0, blk_cell hb]
    match i, hi with
    | 0, _ => rfl
    | 1, _ => rfl
  · rintro e w' ⟨rfl, rfl⟩
    exact ⟨rfl, (Upd.refl [] w).alloc _⟩
set_option maxHeartbeats 4000000 in
set_option maxRecDepth 100000 in
theorem traceBegun_any (w : World) : Calls Try.prog 45 #[] w fun e w' => e = .returned (.bool true) ∧ Upd [] w w' := by
  go_enter Try.func45, Try.ntmps45
  go_wp2_with fail
  refine (begun_pack w).mono ?_
  rintro e w1 ⟨a, c, rfl, HR, hu⟩
  have HU := hid hu
  clear hu
  go_wp2_with fail
  refine (begun_eq w1 a c HR.out).mono ?_
  rintro e w2 ⟨rfl, hu⟩
  have HU2 := hid (HU.out.trans hu (by simp))
  clear hu HU
  go_wp2_with fail
  go_ret
  exact ⟨rfl, HU2.out⟩
end Go.Proofs.Ytcdladnbcamgjaa.Be
