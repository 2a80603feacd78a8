/-
  No cell of these rows narrows 'for every input' (looked for: loops, veiled, ifaces, maps, wideKeys, modest, calm, conditions, laid).
  DERIVED. THE GIVEN ROWS OF THIS SEAT. 16 by the template 'for every input the law returns true; each argument reads behind the call as it read before'; 0 by the template 'total and deterministic' (their statements: YtcdladnbcamgjaaTotals.lean).
  GIVEN WITH THE SEED: the statements are not yours to turn. If you find one false, say at which input.
  Laid BY PROGRAM, IN A SANDBOX (cutbox-rows.mjs): the forced cells as the released guide's own fill.sh prints them over the translation 34db9a56ff67e420… (all of the seat's roots in one cut). By AI agents, Wed Nov 11 2026. No macro, syntax, notation, axiom, sorry.
-/
import Derived.Test.YtcdladnbcamgjaaChecked
import GoSem.Claim
import GoSem.ClaimJoined
import GoSem.ClaimMapViews
import Derived.JoinedTies
import Derived.KernelRfl
namespace Go.Proofs.Ytcdladnbcamgjaa
/- THE CELL 'sum', in the pinned program and in every row, IS THE sha256 OF THE DUMP (.gsa) THAT YtcdladnbcamgjaaProg.lean LOADS. Nothing in Lean hashes anything: it is a label: what it is worth is what the hold of that sum in a sandbox is worth. -/
noncomputable def Try.pinned : Pinned := { name := "ytcdladnbcamgjaa", sum := "34db9a56ff67e420b2c6dc31f3555ab3c2ddb64cc42a3a0d7c3b9cb9933a055d", checked := Try.checked }
namespace Rows
def none {H : Type} : Left H := { results := [], args := [] }

/-- 'roadkeep4.ClockOrder': WHATEVER THE INPUT: true; the input reads as it did. -/
def clockOrderSpec : ChangeSpec := { name := "clockOrder", fn := fun _ => fun
  | [d1, d2, d3, d4] => { results := [.lit (.bool true)], args := [d1, d2, d3, d4] }
  | _ => none }
def clockOrderRow : OpenClaim := { program := "ytcdladnbcamgjaa", sum := "34db9a56ff67e420b2c6dc31f3555ab3c2ddb64cc42a3a0d7c3b9cb9933a055d", func := "roadstead/roadkeep4.ClockOrder", spec := "clockOrder", plainKeys := false, apart := false }
def ClockOrderSaid : Prop := clockOrderRow.holds Try.pinned (OpenSpec.ofChange clockOrderSpec)

/-- ITS FALSE NEIGHBOUR: 'it returns false'. Refute it at one input. -/
def clockOrderWrong : ChangeSpec := { name := "clockOrder", fn := fun _ => fun
  | [d1, d2, d3, d4] => { results := [.lit (.bool false)], args := [d1, d2, d3, d4] }
  | _ => none }
def ClockOrderWrongFalsely : Prop := clockOrderRow.holds Try.pinned (OpenSpec.ofChange clockOrderWrong)

/-- 'roadkeep4.ClockExact': WHATEVER THE INPUT: true; the input reads as it did. -/
def clockExactSpec : ChangeSpec := { name := "clockExact", fn := fun _ => fun
  | [d1, d2, d3] => { results := [.lit (.bool true)], args := [d1, d2, d3] }
  | _ => none }
def clockExactRow : OpenClaim := { program := "ytcdladnbcamgjaa", sum := "34db9a56ff67e420b2c6dc31f3555ab3c2ddb64cc42a3a0d7c3b9cb9933a055d", func := "roadstead/roadkeep4.ClockExact", spec := "clockExact", plainKeys := false, apart := false }
def ClockExactSaid : Prop := clockExactRow.holds Try.pinned (OpenSpec.ofChange clockExactSpec)

/-- ITS FALSE NEIGHBOUR: 'it returns false'. Refute it at one input. -/
def clockExactWrong : ChangeSpec := { name := "clockExact", fn := fun _ => fun
  | [d1, d2, d3] => { results := [.lit (.bool false)], args := [d1, d2, d3] }
  | _ => none }
def ClockExactWrongFalsely : Prop := clockExactRow.holds Try.pinned (OpenSpec.ofChange clockExactWrong)

/-- 'roadkeep4.ClockApart': WHATEVER THE INPUT: true; the input reads as it did. -/
def clockApartSpec : ChangeSpec := { name := "clockApart", fn := fun _ => fun
  | [d] => { results := [.lit (.bool true)], args := [d] }
  | _ => none }
def clockApartRow : OpenClaim := { program := "ytcdladnbcamgjaa", sum := "34db9a56ff67e420b2c6dc31f3555ab3c2ddb64cc42a3a0d7c3b9cb9933a055d", func := "roadstead/roadkeep4.ClockApart", spec := "clockApart", plainKeys := false, apart := false }
def ClockApartSaid : Prop := clockApartRow.holds Try.pinned (OpenSpec.ofChange clockApartSpec)

/-- ITS FALSE NEIGHBOUR: 'it returns false'. Refute it at one input. -/
def clockApartWrong : ChangeSpec := { name := "clockApart", fn := fun _ => fun
  | [d] => { results := [.lit (.bool false)], args := [d] }
  | _ => none }
def ClockApartWrongFalsely : Prop := clockApartRow.holds Try.pinned (OpenSpec.ofChange clockApartWrong)

/-- 'roadkeep4.ClockNumbers': WHATEVER THE INPUT: true; the input reads as it did. -/
def clockNumbersSpec : ChangeSpec := { name := "clockNumbers", fn := fun _ => fun
  | [d] => { results := [.lit (.bool true)], args := [d] }
  | _ => none }
def clockNumbersRow : OpenClaim := { program := "ytcdladnbcamgjaa", sum := "34db9a56ff67e420b2c6dc31f3555ab3c2ddb64cc42a3a0d7c3b9cb9933a055d", func := "roadstead/roadkeep4.ClockNumbers", spec := "clockNumbers", plainKeys := false, apart := false }
def ClockNumbersSaid : Prop := clockNumbersRow.holds Try.pinned (OpenSpec.ofChange clockNumbersSpec)

/-- ITS FALSE NEIGHBOUR: 'it returns false'. Refute it at one input. -/
def clockNumbersWrong : ChangeSpec := { name := "clockNumbers", fn := fun _ => fun
  | [d] => { results := [.lit (.bool false)], args := [d] }
  | _ => none }
def ClockNumbersWrongFalsely : Prop := clockNumbersRow.holds Try.pinned (OpenSpec.ofChange clockNumbersWrong)

/-- 'roadkeep4.ClockSwaps': WHATEVER THE INPUT: true; the input reads as it did. -/
def clockSwapsSpec : ChangeSpec := { name := "clockSwaps", fn := fun _ => fun
  | [d1, d2] => { results := [.lit (.bool true)], args := [d1, d2] }
  | _ => none }
def clockSwapsRow : OpenClaim := { program := "ytcdladnbcamgjaa", sum := "34db9a56ff67e420b2c6dc31f3555ab3c2ddb64cc42a3a0d7c3b9cb9933a055d", func := "roadstead/roadkeep4.ClockSwaps", spec := "clockSwaps", unfollowed := true, recurses := true, plainKeys := false, apart := false }
def ClockSwapsSaid : Prop := clockSwapsRow.holds Try.pinned (OpenSpec.ofChange clockSwapsSpec)

/-- ITS FALSE NEIGHBOUR: 'it returns false'. Refute it at one input. -/
def clockSwapsWrong : ChangeSpec := { name := "clockSwaps", fn := fun _ => fun
  | [d1, d2] => { results := [.lit (.bool false)], args := [d1, d2] }
  | _ => none }
def ClockSwapsWrongFalsely : Prop := clockSwapsRow.holds Try.pinned (OpenSpec.ofChange clockSwapsWrong)

/-- 'roadkeep4.CutMany': WHATEVER THE INPUT: true; the input reads as it did. -/
def cutManySpec : ChangeSpec := { name := "cutMany", fn := fun _ => fun
  | [d1, d2, d3] => { results := [.lit (.bool true)], args := [d1, d2, d3] }
  | _ => none }
def cutManyRow : OpenClaim := { program := "ytcdladnbcamgjaa", sum := "34db9a56ff67e420b2c6dc31f3555ab3c2ddb64cc42a3a0d7c3b9cb9933a055d", func := "roadstead/roadkeep4.CutMany", spec := "cutMany", plainKeys := false, apart := false }
def CutManySaid : Prop := cutManyRow.holds Try.pinned (OpenSpec.ofChange cutManySpec)

/-- ITS FALSE NEIGHBOUR: 'it returns false'. Refute it at one input. -/
def cutManyWrong : ChangeSpec := { name := "cutMany", fn := fun _ => fun
  | [d1, d2, d3] => { results := [.lit (.bool false)], args := [d1, d2, d3] }
  | _ => none }
def CutManyWrongFalsely : Prop := cutManyRow.holds Try.pinned (OpenSpec.ofChange cutManyWrong)

/-- 'roadkeep4.CutClocks': WHATEVER THE INPUT: true; the input reads as it did. -/
def cutClocksSpec : ChangeSpec := { name := "cutClocks", fn := fun _ => fun
  | [d1, d2] => { results := [.lit (.bool true)], args := [d1, d2] }
  | _ => none }
def cutClocksRow : OpenClaim := { program := "ytcdladnbcamgjaa", sum := "34db9a56ff67e420b2c6dc31f3555ab3c2ddb64cc42a3a0d7c3b9cb9933a055d", func := "roadstead/roadkeep4.CutClocks", spec := "cutClocks", plainKeys := false, apart := false }
def CutClocksSaid : Prop := cutClocksRow.holds Try.pinned (OpenSpec.ofChange cutClocksSpec)

/-- ITS FALSE NEIGHBOUR: 'it returns false'. Refute it at one input. -/
def cutClocksWrong : ChangeSpec := { name := "cutClocks", fn := fun _ => fun
  | [d1, d2] => { results := [.lit (.bool false)], args := [d1, d2] }
  | _ => none }
def CutClocksWrongFalsely : Prop := cutClocksRow.holds Try.pinned (OpenSpec.ofChange cutClocksWrong)

/-- 'roadkeep4.CutClosed': WHATEVER THE INPUT: true; the input reads as it did. -/
def cutClosedSpec : ChangeSpec := { name := "cutClosed", fn := fun _ => fun
  | [d1, d2, d3] => { results := [.lit (.bool true)], args := [d1, d2, d3] }
  | _ => none }
def cutClosedRow : OpenClaim := { program := "ytcdladnbcamgjaa", sum := "34db9a56ff67e420b2c6dc31f3555ab3c2ddb64cc42a3a0d7c3b9cb9933a055d", func := "roadstead/roadkeep4.CutClosed", spec := "cutClosed", plainKeys := false, apart := false }
def CutClosedSaid : Prop := cutClosedRow.holds Try.pinned (OpenSpec.ofChange cutClosedSpec)

/-- ITS FALSE NEIGHBOUR: 'it returns false'. Refute it at one input. -/
def cutClosedWrong : ChangeSpec := { name := "cutClosed", fn := fun _ => fun
  | [d1, d2, d3] => { results := [.lit (.bool false)], args := [d1, d2, d3] }
  | _ => none }
def CutClosedWrongFalsely : Prop := cutClosedRow.holds Try.pinned (OpenSpec.ofChange cutClosedWrong)

/-- 'roadkeep4.CutSteps': WHATEVER THE INPUT: true; the input reads as it did. -/
def cutStepsSpec : ChangeSpec := { name := "cutSteps", fn := fun _ => fun
  | [d1, d2, d3] => { results := [.lit (.bool true)], args := [d1, d2, d3] }
  | _ => none }
def cutStepsRow : OpenClaim := { program := "ytcdladnbcamgjaa", sum := "34db9a56ff67e420b2c6dc31f3555ab3c2ddb64cc42a3a0d7c3b9cb9933a055d", func := "roadstead/roadkeep4.CutSteps", spec := "cutSteps", plainKeys := false, apart := false }
def CutStepsSaid : Prop := cutStepsRow.holds Try.pinned (OpenSpec.ofChange cutStepsSpec)

/-- ITS FALSE NEIGHBOUR: 'it returns false'. Refute it at one input. -/
def cutStepsWrong : ChangeSpec := { name := "cutSteps", fn := fun _ => fun
  | [d1, d2, d3] => { results := [.lit (.bool false)], args := [d1, d2, d3] }
  | _ => none }
def CutStepsWrongFalsely : Prop := cutStepsRow.holds Try.pinned (OpenSpec.ofChange cutStepsWrong)

/-- 'roadkeep4.CutLattice': WHATEVER THE INPUT: true; the input reads as it did. -/
def cutLatticeSpec : ChangeSpec := { name := "cutLattice", fn := fun _ => fun
  | [d1, d2, d3] => { results := [.lit (.bool true)], args := [d1, d2, d3] }
  | _ => none }
def cutLatticeRow : OpenClaim := { program := "ytcdladnbcamgjaa", sum := "34db9a56ff67e420b2c6dc31f3555ab3c2ddb64cc42a3a0d7c3b9cb9933a055d", func := "roadstead/roadkeep4.CutLattice", spec := "cutLattice", plainKeys := false, apart := false }
def CutLatticeSaid : Prop := cutLatticeRow.holds Try.pinned (OpenSpec.ofChange cutLatticeSpec)

/-- ITS FALSE NEIGHBOUR: 'it returns false'. Refute it at one input. -/
def cutLatticeWrong : ChangeSpec := { name := "cutLattice", fn := fun _ => fun
  | [d1, d2, d3] => { results := [.lit (.bool false)], args := [d1, d2, d3] }
  | _ => none }
def CutLatticeWrongFalsely : Prop := cutLatticeRow.holds Try.pinned (OpenSpec.ofChange cutLatticeWrong)

/-- 'roadkeep4.CutWay': WHATEVER THE INPUT: true; the input reads as it did. -/
def cutWaySpec : ChangeSpec := { name := "cutWay", fn := fun _ => fun
  | [d1, d2] => { results := [.lit (.bool true)], args := [d1, d2] }
  | _ => none }
def cutWayRow : OpenClaim := { program := "ytcdladnbcamgjaa", sum := "34db9a56ff67e420b2c6dc31f3555ab3c2ddb64cc42a3a0d7c3b9cb9933a055d", func := "roadstead/roadkeep4.CutWay", spec := "cutWay", unfollowed := true, recurses := true, plainKeys := false, apart := false }
def CutWaySaid : Prop := cutWayRow.holds Try.pinned (OpenSpec.ofChange cutWaySpec)

/-- ITS FALSE NEIGHBOUR: 'it returns false'. Refute it at one input. -/
def cutWayWrong : ChangeSpec := { name := "cutWay", fn := fun _ => fun
  | [d1, d2] => { results := [.lit (.bool false)], args := [d1, d2] }
  | _ => none }
def CutWayWrongFalsely : Prop := cutWayRow.holds Try.pinned (OpenSpec.ofChange cutWayWrong)

/-- 'roadkeep4.TraceBack': WHATEVER THE INPUT: true; the input reads as it did. -/
def traceBackSpec : ChangeSpec := { name := "traceBack", fn := fun _ => fun
  | [d1, d2] => { results := [.lit (.bool true)], args := [d1, d2] }
  | _ => none }
def traceBackRow : OpenClaim := { program := "ytcdladnbcamgjaa", sum := "34db9a56ff67e420b2c6dc31f3555ab3c2ddb64cc42a3a0d7c3b9cb9933a055d", func := "roadstead/roadkeep4.TraceBack", spec := "traceBack", plainKeys := false, apart := false }
def TraceBackSaid : Prop := traceBackRow.holds Try.pinned (OpenSpec.ofChange traceBackSpec)

/-- ITS FALSE NEIGHBOUR: 'it returns false'. Refute it at one input. -/
def traceBackWrong : ChangeSpec := { name := "traceBack", fn := fun _ => fun
  | [d1, d2] => { results := [.lit (.bool false)], args := [d1, d2] }
  | _ => none }
def TraceBackWrongFalsely : Prop := traceBackRow.holds Try.pinned (OpenSpec.ofChange traceBackWrong)

/-- 'roadkeep4.TracePlaces': WHATEVER THE INPUT: true; the input reads as it did. -/
def tracePlacesSpec : ChangeSpec := { name := "tracePlaces", fn := fun _ => fun
  | [d1, d2] => { results := [.lit (.bool true)], args := [d1, d2] }
  | _ => none }
def tracePlacesRow : OpenClaim := { program := "ytcdladnbcamgjaa", sum := "34db9a56ff67e420b2c6dc31f3555ab3c2ddb64cc42a3a0d7c3b9cb9933a055d", func := "roadstead/roadkeep4.TracePlaces", spec := "tracePlaces", unfollowed := true, recurses := true, plainKeys := false, apart := false }
def TracePlacesSaid : Prop := tracePlacesRow.holds Try.pinned (OpenSpec.ofChange tracePlacesSpec)

/-- ITS FALSE NEIGHBOUR: 'it returns false'. Refute it at one input. -/
def tracePlacesWrong : ChangeSpec := { name := "tracePlaces", fn := fun _ => fun
  | [d1, d2] => { results := [.lit (.bool false)], args := [d1, d2] }
  | _ => none }
def TracePlacesWrongFalsely : Prop := tracePlacesRow.holds Try.pinned (OpenSpec.ofChange tracePlacesWrong)

/-- 'roadkeep4.TraceCut': WHATEVER THE INPUT: true; the input reads as it did. -/
def traceCutSpec : ChangeSpec := { name := "traceCut", fn := fun _ => fun
  | [d1, d2, d3] => { results := [.lit (.bool true)], args := [d1, d2, d3] }
  | _ => none }
def traceCutRow : OpenClaim := { program := "ytcdladnbcamgjaa", sum := "34db9a56ff67e420b2c6dc31f3555ab3c2ddb64cc42a3a0d7c3b9cb9933a055d", func := "roadstead/roadkeep4.TraceCut", spec := "traceCut", plainKeys := false, apart := false }
def TraceCutSaid : Prop := traceCutRow.holds Try.pinned (OpenSpec.ofChange traceCutSpec)

/-- ITS FALSE NEIGHBOUR: 'it returns false'. Refute it at one input. -/
def traceCutWrong : ChangeSpec := { name := "traceCut", fn := fun _ => fun
  | [d1, d2, d3] => { results := [.lit (.bool false)], args := [d1, d2, d3] }
  | _ => none }
def TraceCutWrongFalsely : Prop := traceCutRow.holds Try.pinned (OpenSpec.ofChange traceCutWrong)

/-- 'roadkeep4.TraceLed': WHATEVER THE INPUT: true; the input reads as it did. -/
def traceLedSpec : ChangeSpec := { name := "traceLed", fn := fun _ => fun
  | [d1, d2] => { results := [.lit (.bool true)], args := [d1, d2] }
  | _ => none }
def traceLedRow : OpenClaim := { program := "ytcdladnbcamgjaa", sum := "34db9a56ff67e420b2c6dc31f3555ab3c2ddb64cc42a3a0d7c3b9cb9933a055d", func := "roadstead/roadkeep4.TraceLed", spec := "traceLed", plainKeys := false, apart := false }
def TraceLedSaid : Prop := traceLedRow.holds Try.pinned (OpenSpec.ofChange traceLedSpec)

/-- ITS FALSE NEIGHBOUR: 'it returns false'. Refute it at one input. -/
def traceLedWrong : ChangeSpec := { name := "traceLed", fn := fun _ => fun
  | [d1, d2] => { results := [.lit (.bool false)], args := [d1, d2] }
  | _ => none }
def TraceLedWrongFalsely : Prop := traceLedRow.holds Try.pinned (OpenSpec.ofChange traceLedWrong)

/-- 'roadkeep4.TraceSame': WHATEVER THE INPUT: true; the input reads as it did. -/
def traceSameSpec : ChangeSpec := { name := "traceSame", fn := fun _ => fun
  | [d1, d2] => { results := [.lit (.bool true)], args := [d1, d2] }
  | _ => none }
def traceSameRow : OpenClaim := { program := "ytcdladnbcamgjaa", sum := "34db9a56ff67e420b2c6dc31f3555ab3c2ddb64cc42a3a0d7c3b9cb9933a055d", func := "roadstead/roadkeep4.TraceSame", spec := "traceSame", unfollowed := true, recurses := true, plainKeys := false, apart := false }
def TraceSameSaid : Prop := traceSameRow.holds Try.pinned (OpenSpec.ofChange traceSameSpec)

/-- ITS FALSE NEIGHBOUR: 'it returns false'. Refute it at one input. -/
def traceSameWrong : ChangeSpec := { name := "traceSame", fn := fun _ => fun
  | [d1, d2] => { results := [.lit (.bool false)], args := [d1, d2] }
  | _ => none }
def TraceSameWrongFalsely : Prop := traceSameRow.holds Try.pinned (OpenSpec.ofChange traceSameWrong)

/- THE SECOND FORM. 'bulk': how many values and letters a reading holds, each counted each time it is reached (what is shared counts as often as it is met; a slice's spare places count too). A statement '..UptoSaid' is the law's where the arguments, and the package variables that the reading takes, are together of bulk at most 1048576: NARROWER than '..Said'. Prove '..Said' where nothing that the law and all that it calls make is longer than what came in: it says more and counts as full. Else prove '..UptoSaid'. A law counts once. -/
mutual
def uptoBulk {H : Type} : DataW H → Nat
  | .lit (.string bytes) => bytes.length + 1
  | .lit _ => 1
  | .nil => 1
  | .ptr d => uptoBulk d + 1
  | .slice elems spare => uptoBulkAll elems + uptoBulkAll spare + 1
  | .agg parts => uptoBulkAll parts + 1
  | .iface _ d => uptoBulk d + 1
  | .map entries => uptoBulkEntries entries + 1
  | .held _ => 1
def uptoBulkAll {H : Type} : List (DataW H) → Nat
  | [] => 0
  | d :: r => uptoBulk d + uptoBulkAll r
def uptoBulkEntries {H : Type} : List (Lit × DataW H) → Nat
  | [] => 0
  | x :: r => uptoBulkEntry x + uptoBulkEntries r
def uptoBulkEntry {H : Type} : Lit × DataW H → Nat
  | (.string bytes, d) => bytes.length + uptoBulk d + 1
  | (_, d) => uptoBulk d + 1
 end
def uptoSmall : (H : Type) → List (DataW H) → Bool := fun _ ds => decide (uptoBulkAll ds ≤ 1048576)
def OpenSpec.upto (s : _root_.Go.ChangeSpec) : _root_.Go.OpenSpec := { _root_.Go.OpenSpec.ofChange s with cond := some uptoSmall }

/-- 'roadkeep4.ClockOrder', WHERE WHAT IT READS IS OF BULK AT MOST 1048576: true; the input reads as it did. -/
def clockOrderUptoRow : OpenClaim := { program := "ytcdladnbcamgjaa", sum := "34db9a56ff67e420b2c6dc31f3555ab3c2ddb64cc42a3a0d7c3b9cb9933a055d", func := "roadstead/roadkeep4.ClockOrder", spec := "clockOrder", plainKeys := false, apart := false, narrowed := true }
def ClockOrderUptoSaid : Prop := clockOrderUptoRow.holds Try.pinned (OpenSpec.upto clockOrderSpec)

/-- 'roadkeep4.ClockExact', WHERE WHAT IT READS IS OF BULK AT MOST 1048576: true; the input reads as it did. -/
def clockExactUptoRow : OpenClaim := { program := "ytcdladnbcamgjaa", sum := "34db9a56ff67e420b2c6dc31f3555ab3c2ddb64cc42a3a0d7c3b9cb9933a055d", func := "roadstead/roadkeep4.ClockExact", spec := "clockExact", plainKeys := false, apart := false, narrowed := true }
def ClockExactUptoSaid : Prop := clockExactUptoRow.holds Try.pinned (OpenSpec.upto clockExactSpec)

/-- 'roadkeep4.ClockApart', WHERE WHAT IT READS IS OF BULK AT MOST 1048576: true; the input reads as it did. -/
def clockApartUptoRow : OpenClaim := { program := "ytcdladnbcamgjaa", sum := "34db9a56ff67e420b2c6dc31f3555ab3c2ddb64cc42a3a0d7c3b9cb9933a055d", func := "roadstead/roadkeep4.ClockApart", spec := "clockApart", plainKeys := false, apart := false, narrowed := true }
def ClockApartUptoSaid : Prop := clockApartUptoRow.holds Try.pinned (OpenSpec.upto clockApartSpec)

/-- 'roadkeep4.ClockNumbers', WHERE WHAT IT READS IS OF BULK AT MOST 1048576: true; the input reads as it did. -/
def clockNumbersUptoRow : OpenClaim := { program := "ytcdladnbcamgjaa", sum := "34db9a56ff67e420b2c6dc31f3555ab3c2ddb64cc42a3a0d7c3b9cb9933a055d", func := "roadstead/roadkeep4.ClockNumbers", spec := "clockNumbers", plainKeys := false, apart := false, narrowed := true }
def ClockNumbersUptoSaid : Prop := clockNumbersUptoRow.holds Try.pinned (OpenSpec.upto clockNumbersSpec)

/-- 'roadkeep4.ClockSwaps', WHERE WHAT IT READS IS OF BULK AT MOST 1048576: true; the input reads as it did. -/
def clockSwapsUptoRow : OpenClaim := { program := "ytcdladnbcamgjaa", sum := "34db9a56ff67e420b2c6dc31f3555ab3c2ddb64cc42a3a0d7c3b9cb9933a055d", func := "roadstead/roadkeep4.ClockSwaps", spec := "clockSwaps", unfollowed := true, recurses := true, plainKeys := false, apart := false, narrowed := true }
def ClockSwapsUptoSaid : Prop := clockSwapsUptoRow.holds Try.pinned (OpenSpec.upto clockSwapsSpec)

/-- 'roadkeep4.CutMany', WHERE WHAT IT READS IS OF BULK AT MOST 1048576: true; the input reads as it did. -/
def cutManyUptoRow : OpenClaim := { program := "ytcdladnbcamgjaa", sum := "34db9a56ff67e420b2c6dc31f3555ab3c2ddb64cc42a3a0d7c3b9cb9933a055d", func := "roadstead/roadkeep4.CutMany", spec := "cutMany", plainKeys := false, apart := false, narrowed := true }
def CutManyUptoSaid : Prop := cutManyUptoRow.holds Try.pinned (OpenSpec.upto cutManySpec)

/-- 'roadkeep4.CutClocks', WHERE WHAT IT READS IS OF BULK AT MOST 1048576: true; the input reads as it did. -/
def cutClocksUptoRow : OpenClaim := { program := "ytcdladnbcamgjaa", sum := "34db9a56ff67e420b2c6dc31f3555ab3c2ddb64cc42a3a0d7c3b9cb9933a055d", func := "roadstead/roadkeep4.CutClocks", spec := "cutClocks", plainKeys := false, apart := false, narrowed := true }
def CutClocksUptoSaid : Prop := cutClocksUptoRow.holds Try.pinned (OpenSpec.upto cutClocksSpec)

/-- 'roadkeep4.CutClosed', WHERE WHAT IT READS IS OF BULK AT MOST 1048576: true; the input reads as it did. -/
def cutClosedUptoRow : OpenClaim := { program := "ytcdladnbcamgjaa", sum := "34db9a56ff67e420b2c6dc31f3555ab3c2ddb64cc42a3a0d7c3b9cb9933a055d", func := "roadstead/roadkeep4.CutClosed", spec := "cutClosed", plainKeys := false, apart := false, narrowed := true }
def CutClosedUptoSaid : Prop := cutClosedUptoRow.holds Try.pinned (OpenSpec.upto cutClosedSpec)

/-- 'roadkeep4.CutSteps', WHERE WHAT IT READS IS OF BULK AT MOST 1048576: true; the input reads as it did. -/
def cutStepsUptoRow : OpenClaim := { program := "ytcdladnbcamgjaa", sum := "34db9a56ff67e420b2c6dc31f3555ab3c2ddb64cc42a3a0d7c3b9cb9933a055d", func := "roadstead/roadkeep4.CutSteps", spec := "cutSteps", plainKeys := false, apart := false, narrowed := true }
def CutStepsUptoSaid : Prop := cutStepsUptoRow.holds Try.pinned (OpenSpec.upto cutStepsSpec)

/-- 'roadkeep4.CutLattice', WHERE WHAT IT READS IS OF BULK AT MOST 1048576: true; the input reads as it did. -/
def cutLatticeUptoRow : OpenClaim := { program := "ytcdladnbcamgjaa", sum := "34db9a56ff67e420b2c6dc31f3555ab3c2ddb64cc42a3a0d7c3b9cb9933a055d", func := "roadstead/roadkeep4.CutLattice", spec := "cutLattice", plainKeys := false, apart := false, narrowed := true }
def CutLatticeUptoSaid : Prop := cutLatticeUptoRow.holds Try.pinned (OpenSpec.upto cutLatticeSpec)

/-- 'roadkeep4.CutWay', WHERE WHAT IT READS IS OF BULK AT MOST 1048576: true; the input reads as it did. -/
def cutWayUptoRow : OpenClaim := { program := "ytcdladnbcamgjaa", sum := "34db9a56ff67e420b2c6dc31f3555ab3c2ddb64cc42a3a0d7c3b9cb9933a055d", func := "roadstead/roadkeep4.CutWay", spec := "cutWay", unfollowed := true, recurses := true, plainKeys := false, apart := false, narrowed := true }
def CutWayUptoSaid : Prop := cutWayUptoRow.holds Try.pinned (OpenSpec.upto cutWaySpec)

/-- 'roadkeep4.TraceBack', WHERE WHAT IT READS IS OF BULK AT MOST 1048576: true; the input reads as it did. -/
def traceBackUptoRow : OpenClaim := { program := "ytcdladnbcamgjaa", sum := "34db9a56ff67e420b2c6dc31f3555ab3c2ddb64cc42a3a0d7c3b9cb9933a055d", func := "roadstead/roadkeep4.TraceBack", spec := "traceBack", plainKeys := false, apart := false, narrowed := true }
def TraceBackUptoSaid : Prop := traceBackUptoRow.holds Try.pinned (OpenSpec.upto traceBackSpec)

/-- 'roadkeep4.TracePlaces', WHERE WHAT IT READS IS OF BULK AT MOST 1048576: true; the input reads as it did. -/
def tracePlacesUptoRow : OpenClaim := { program := "ytcdladnbcamgjaa", sum := "34db9a56ff67e420b2c6dc31f3555ab3c2ddb64cc42a3a0d7c3b9cb9933a055d", func := "roadstead/roadkeep4.TracePlaces", spec := "tracePlaces", unfollowed := true, recurses := true, plainKeys := false, apart := false, narrowed := true }
def TracePlacesUptoSaid : Prop := tracePlacesUptoRow.holds Try.pinned (OpenSpec.upto tracePlacesSpec)

/-- 'roadkeep4.TraceCut', WHERE WHAT IT READS IS OF BULK AT MOST 1048576: true; the input reads as it did. -/
def traceCutUptoRow : OpenClaim := { program := "ytcdladnbcamgjaa", sum := "34db9a56ff67e420b2c6dc31f3555ab3c2ddb64cc42a3a0d7c3b9cb9933a055d", func := "roadstead/roadkeep4.TraceCut", spec := "traceCut", plainKeys := false, apart := false, narrowed := true }
def TraceCutUptoSaid : Prop := traceCutUptoRow.holds Try.pinned (OpenSpec.upto traceCutSpec)

/-- 'roadkeep4.TraceLed', WHERE WHAT IT READS IS OF BULK AT MOST 1048576: true; the input reads as it did. -/
def traceLedUptoRow : OpenClaim := { program := "ytcdladnbcamgjaa", sum := "34db9a56ff67e420b2c6dc31f3555ab3c2ddb64cc42a3a0d7c3b9cb9933a055d", func := "roadstead/roadkeep4.TraceLed", spec := "traceLed", plainKeys := false, apart := false, narrowed := true }
def TraceLedUptoSaid : Prop := traceLedUptoRow.holds Try.pinned (OpenSpec.upto traceLedSpec)

/-- 'roadkeep4.TraceSame', WHERE WHAT IT READS IS OF BULK AT MOST 1048576: true; the input reads as it did. -/
def traceSameUptoRow : OpenClaim := { program := "ytcdladnbcamgjaa", sum := "34db9a56ff67e420b2c6dc31f3555ab3c2ddb64cc42a3a0d7c3b9cb9933a055d", func := "roadstead/roadkeep4.TraceSame", spec := "traceSame", unfollowed := true, recurses := true, plainKeys := false, apart := false, narrowed := true }
def TraceSameUptoSaid : Prop := traceSameUptoRow.holds Try.pinned (OpenSpec.upto traceSameSpec)

end Rows
end Go.Proofs.Ytcdladnbcamgjaa
