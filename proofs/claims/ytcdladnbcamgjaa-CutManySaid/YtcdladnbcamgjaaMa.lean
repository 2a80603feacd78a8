/- cut.All: cuts as keys; rows of cuts. -/
import Derived.Test.YtcdladnbcamgjaaMb
import Derived.Test.YtcdladnbcamgjaaMS
import Derived.Test.YtcdladnbcamgjaaCv
namespace Go.Proofs.Ytcdladnbcamgjaa.CuM
open Go Go.RowKit Go.Proofs.Ytcdladnbcamgjaa Go.Proofs.Ytcdladnbcamgjaa.K Go.Proofs.Ytcdladnbcamgjaa.M Go.Proofs.Ytcdladnbcamgjaa.O Go.Proofs.Ytcdladnbcamgjaa.MS
open Go.Proofs.Ytcdladnbcamgjaa.Ev Go.Proofs.Ytcdladnbcamgjaa.CL Go.Proofs.Ytcdladnbcamgjaa.CW Go.Proofs.Ytcdladnbcamgjaa.Th Go.Proofs.Ytcdladnbcamgjaa.Cu Go.Proofs.Ytcdladnbcamgjaa.CuT Go.Proofs.Ytcdladnbcamgjaa.Cv

def cells8 (c : List Int) : List Value := [.int .i64 (c.getD 0 0), .int .i64 (c.getD 1 0), .int .i64 (c.getD 2 0), .int .i64 (c.getD 3 0), .int .i64 (c.getD 4 0), .int .i64 (c.getD 5 0), .int .i64 (c.getD 6 0), .int .i64 (c.getD 7 0)]
def cval (c : List Int) : Value := .agg (cells8 c).toArray
def Kc (v : Value) : Prop := ∃ c, c.length = 8 ∧ v = cval c
theorem cval_inj {c d : List Int} (hc : c.length = 8) (hd : d.length = 8) (h : cval c = cval d) : c = d := by
  simp [cval, cells8] at h
  obtain ⟨h0, h1, h2, h3, h4, h5, h6, h7⟩ := h
  match c, hc, d, hd with
  | [a0, a1, a2, a3, a4, a5, a6, a7], _, [b0, b1, b2, b3, b4, b5, b6, b7], _ =>
    simp at h0 h1 h2 h3 h4 h5 h6 h7
    simp [h0, h1, h2, h3, h4, h5, h6, h7]
theorem info3 : ∃ i, Try.prog.info? 3 = some i := by
  have h : (Try.prog.info? 3).isSome = true := by kernel_rfl
  exact Option.isSome_iff_exists.1 h
theorem key8 : KL Try.prog 77 Kc where
  check := fun w em v ⟨c, hc, e⟩ => by
    have a3 : ∀ w, (isAgg 3).run Try.prog w = .ok false w := Try.isAgg3
    have z3 : ∀ w, (Go.sizeOf 3).run Try.prog w = .ok 1 w := Try.sizeOf3
    subst e
    have hk : ∀ (x : Int) (w : World), (Instr.checkKey em 9999 3 (.int .i64 x)).run Try.prog w = .ok () w := fun x w => MapKept.run_checkKey (k := .int .i64 x) Try.underlying3 rfl em 9998
    unfold Instr.checkKey
    simp only [Sem.run_bind, run_underlying Try.underlying77, Result.andThen, cval, cells8]
    simp [Std.Legacy.Range.forIn_eq_forIn_range', Std.Legacy.Range.size, List.range', part, Sem.run_bind, a3, z3, hk, Result.andThen]
  equal := fun w x y ⟨c, hc, e⟩ ⟨d, hd, f⟩ => by
    subst e f
    obtain ⟨i, hi⟩ := info3
    have a3 : ∀ w, (isAgg 3).run Try.prog w = .ok false w := Try.isAgg3
    have q : ∀ (x y : Int) (w : World), (Op.equalIn 9999 3 (.int .i64 x) (.int .i64 y)).run Try.prog w = .ok (x == y) w := fun x y w => run_equalIn_int w 9998 3 .i64 .i64 x y Try.underlying3
    refine ⟨decide (c = d), ?_, by rw [decide_eq_true_iff]; exact ⟨fun e => by rw [e], cval_inj hc hd⟩⟩
    show (Op.equalIn 10000 77 (cval c) (cval d)).run Try.prog w = _
    unfold cval
    rw [run_equalIn_array w 9999 _ _ Try.underlying77 hi]
    have hcell : Try.prog.cellsOf 3 = 1 := by kernel_rfl
    match c, hc, d, hd with
    | [a0, a1, a2, a3', a4, a5, a6, a7], _, [b0, b1, b2, b3, b4, b5, b6, b7], _ =>
      simp only [cells8, hcell, show List.range 8 = [0, 1, 2, 3, 4, 5, 6, 7] from rfl]
      simp [Op.eqItems, part, Sem.run_bind, a3, q, Result.andThen]
      (repeat' split) <;> simp_all
  stays := fun w v ⟨c, hc, e⟩ => by
    subst e
    simp [Instr.keyThatStays, Instr.sameBits, cval, cells8]
  now := ⟨_, Try.underlying77, fun x e l i ⟨c, hc, ex⟩ ⟨d, hd, ey⟩ => by subst ex; simp [Instr.findNow, Instr.sameNow]⟩
end Go.Proofs.Ytcdladnbcamgjaa.CuM
