/-
  No cell of these rows narrows 'for every input' (looked for: loops, veiled, ifaces, maps, wideKeys, modest, calm, conditions, laid).
  DERIVED. THE GIVEN ROWS OF THIS SEAT. 12 by the template 'for every input the law returns true; each argument reads behind the call as it read before'; 0 by the template 'total and deterministic' (their statements: YtmdhhembkmkfdaaTotals.lean).
  GIVEN WITH THE SEED: the statements are not yours to turn. If you find one false, say at which input.
  Laid BY PROGRAM, IN A SANDBOX (cutbox-rows.mjs): the forced cells as the released guide's own fill.sh prints them over the translation 3f66409d384388be… (all of the seat's roots in one cut). By AI agents, Wed Nov 11 2026. No macro, syntax, notation, axiom, sorry.
-/
import Derived.Test.YtmdhhembkmkfdaaChecked
import GoSem.Claim
import GoSem.ClaimJoined
import GoSem.ClaimMapViews
import Derived.JoinedTies
import Derived.KernelRfl
namespace Go.Proofs.Ytmdhhembkmkfdaa
/- THE CELL 'sum', in the pinned program and in every row, IS THE sha256 OF THE DUMP (.gsa) THAT YtmdhhembkmkfdaaProg.lean LOADS. Nothing in Lean hashes anything: it is a label: what it is worth is what the hold of that sum in a sandbox is worth. -/
noncomputable def Try.pinned : Pinned := { name := "ytmdhhembkmkfdaa", sum := "3f66409d384388be468b78ed1b9e0061b6c77c478e137a030ff38e767c0bba5f", checked := Try.checked }
namespace Rows
def none {H : Type} : Left H := { results := [], args := [] }

/-- 'roadkeep4.ClockJoin': WHATEVER THE INPUT: true; the input reads as it did. -/
def clockJoinSpec : ChangeSpec := { name := "clockJoin", fn := fun _ => fun
  | [d1, d2, d3] => { results := [.lit (.bool true)], args := [d1, d2, d3] }
  | _ => none }
def clockJoinRow : OpenClaim := { program := "ytmdhhembkmkfdaa", sum := "3f66409d384388be468b78ed1b9e0061b6c77c478e137a030ff38e767c0bba5f", func := "roadstead/roadkeep4.ClockJoin", spec := "clockJoin", unfollowed := true, recurses := true, apart := false }
def ClockJoinSaid : Prop := clockJoinRow.holds Try.pinned (OpenSpec.ofChange clockJoinSpec)

/-- ITS FALSE NEIGHBOUR: 'it returns false'. Refute it at one input. -/
def clockJoinWrong : ChangeSpec := { name := "clockJoin", fn := fun _ => fun
  | [d1, d2, d3] => { results := [.lit (.bool false)], args := [d1, d2, d3] }
  | _ => none }
def ClockJoinWrongFalsely : Prop := clockJoinRow.holds Try.pinned (OpenSpec.ofChange clockJoinWrong)

/-- 'roadkeep4.FenceRises': WHATEVER THE INPUT: true; the input reads as it did. -/
def fenceRisesSpec : ChangeSpec := { name := "fenceRises", fn := fun _ => fun
  | [d] => { results := [.lit (.bool true)], args := [d] }
  | _ => none }
def fenceRisesRow : OpenClaim := { program := "ytmdhhembkmkfdaa", sum := "3f66409d384388be468b78ed1b9e0061b6c77c478e137a030ff38e767c0bba5f", func := "roadstead/roadkeep4.FenceRises", spec := "fenceRises", apart := false }
def FenceRisesSaid : Prop := fenceRisesRow.holds Try.pinned (OpenSpec.ofChange fenceRisesSpec)

/-- ITS FALSE NEIGHBOUR: 'it returns false'. Refute it at one input. -/
def fenceRisesWrong : ChangeSpec := { name := "fenceRises", fn := fun _ => fun
  | [d] => { results := [.lit (.bool false)], args := [d] }
  | _ => none }
def FenceRisesWrongFalsely : Prop := fenceRisesRow.holds Try.pinned (OpenSpec.ofChange fenceRisesWrong)

/-- 'roadkeep4.FenceOne': WHATEVER THE INPUT: true; the input reads as it did. -/
def fenceOneSpec : ChangeSpec := { name := "fenceOne", fn := fun _ => fun
  | [d] => { results := [.lit (.bool true)], args := [d] }
  | _ => none }
def fenceOneRow : OpenClaim := { program := "ytmdhhembkmkfdaa", sum := "3f66409d384388be468b78ed1b9e0061b6c77c478e137a030ff38e767c0bba5f", func := "roadstead/roadkeep4.FenceOne", spec := "fenceOne", apart := false }
def FenceOneSaid : Prop := fenceOneRow.holds Try.pinned (OpenSpec.ofChange fenceOneSpec)

/-- ITS FALSE NEIGHBOUR: 'it returns false'. Refute it at one input. -/
def fenceOneWrong : ChangeSpec := { name := "fenceOne", fn := fun _ => fun
  | [d] => { results := [.lit (.bool false)], args := [d] }
  | _ => none }
def FenceOneWrongFalsely : Prop := fenceOneRow.holds Try.pinned (OpenSpec.ofChange fenceOneWrong)

/-- 'roadkeep4.FenceLate': WHATEVER THE INPUT: true; the input reads as it did. -/
def fenceLateSpec : ChangeSpec := { name := "fenceLate", fn := fun _ => fun
  | [d1, d2, d3, d4] => { results := [.lit (.bool true)], args := [d1, d2, d3, d4] }
  | _ => none }
def fenceLateRow : OpenClaim := { program := "ytmdhhembkmkfdaa", sum := "3f66409d384388be468b78ed1b9e0061b6c77c478e137a030ff38e767c0bba5f", func := "roadstead/roadkeep4.FenceLate", spec := "fenceLate", apart := false }
def FenceLateSaid : Prop := fenceLateRow.holds Try.pinned (OpenSpec.ofChange fenceLateSpec)

/-- ITS FALSE NEIGHBOUR: 'it returns false'. Refute it at one input. -/
def fenceLateWrong : ChangeSpec := { name := "fenceLate", fn := fun _ => fun
  | [d1, d2, d3, d4] => { results := [.lit (.bool false)], args := [d1, d2, d3, d4] }
  | _ => none }
def FenceLateWrongFalsely : Prop := fenceLateRow.holds Try.pinned (OpenSpec.ofChange fenceLateWrong)

/-- 'roadkeep4.ShrinkFew': WHATEVER THE INPUT: true; the input reads as it did. -/
def shrinkFewSpec : ChangeSpec := { name := "shrinkFew", fn := fun _ => fun
  | [d1, d2] => { results := [.lit (.bool true)], args := [d1, d2] }
  | _ => none }
def shrinkFewRow : OpenClaim := { program := "ytmdhhembkmkfdaa", sum := "3f66409d384388be468b78ed1b9e0061b6c77c478e137a030ff38e767c0bba5f", func := "roadstead/roadkeep4.ShrinkFew", spec := "shrinkFew", unfollowed := true, recurses := true, apart := false }
def ShrinkFewSaid : Prop := shrinkFewRow.holds Try.pinned (OpenSpec.ofChange shrinkFewSpec)

/-- ITS FALSE NEIGHBOUR: 'it returns false'. Refute it at one input. -/
def shrinkFewWrong : ChangeSpec := { name := "shrinkFew", fn := fun _ => fun
  | [d1, d2] => { results := [.lit (.bool false)], args := [d1, d2] }
  | _ => none }
def ShrinkFewWrongFalsely : Prop := shrinkFewRow.holds Try.pinned (OpenSpec.ofChange shrinkFewWrong)

/-- 'roadkeep4.CreditTurns': WHATEVER THE INPUT: true; the input reads as it did. -/
def creditTurnsSpec : ChangeSpec := { name := "creditTurns", fn := fun _ => fun
  | [d1, d2] => { results := [.lit (.bool true)], args := [d1, d2] }
  | _ => none }
def creditTurnsRow : OpenClaim := { program := "ytmdhhembkmkfdaa", sum := "3f66409d384388be468b78ed1b9e0061b6c77c478e137a030ff38e767c0bba5f", func := "roadstead/roadkeep4.CreditTurns", spec := "creditTurns", apart := false }
def CreditTurnsSaid : Prop := creditTurnsRow.holds Try.pinned (OpenSpec.ofChange creditTurnsSpec)

/-- ITS FALSE NEIGHBOUR: 'it returns false'. Refute it at one input. -/
def creditTurnsWrong : ChangeSpec := { name := "creditTurns", fn := fun _ => fun
  | [d1, d2] => { results := [.lit (.bool false)], args := [d1, d2] }
  | _ => none }
def CreditTurnsWrongFalsely : Prop := creditTurnsRow.holds Try.pinned (OpenSpec.ofChange creditTurnsWrong)

/-- 'roadkeep4.CreditRoom': WHATEVER THE INPUT: true; the input reads as it did. -/
def creditRoomSpec : ChangeSpec := { name := "creditRoom", fn := fun _ => fun
  | [d1, d2, d3] => { results := [.lit (.bool true)], args := [d1, d2, d3] }
  | _ => none }
def creditRoomRow : OpenClaim := { program := "ytmdhhembkmkfdaa", sum := "3f66409d384388be468b78ed1b9e0061b6c77c478e137a030ff38e767c0bba5f", func := "roadstead/roadkeep4.CreditRoom", spec := "creditRoom", apart := false }
def CreditRoomSaid : Prop := creditRoomRow.holds Try.pinned (OpenSpec.ofChange creditRoomSpec)

/-- ITS FALSE NEIGHBOUR: 'it returns false'. Refute it at one input. -/
def creditRoomWrong : ChangeSpec := { name := "creditRoom", fn := fun _ => fun
  | [d1, d2, d3] => { results := [.lit (.bool false)], args := [d1, d2, d3] }
  | _ => none }
def CreditRoomWrongFalsely : Prop := creditRoomRow.holds Try.pinned (OpenSpec.ofChange creditRoomWrong)

/-- 'roadkeep4.CreditAll': WHATEVER THE INPUT: true; the input reads as it did. -/
def creditAllSpec : ChangeSpec := { name := "creditAll", fn := fun _ => fun
  | [d1, d2, d3] => { results := [.lit (.bool true)], args := [d1, d2, d3] }
  | _ => none }
def creditAllRow : OpenClaim := { program := "ytmdhhembkmkfdaa", sum := "3f66409d384388be468b78ed1b9e0061b6c77c478e137a030ff38e767c0bba5f", func := "roadstead/roadkeep4.CreditAll", spec := "creditAll", apart := false }
def CreditAllSaid : Prop := creditAllRow.holds Try.pinned (OpenSpec.ofChange creditAllSpec)

/-- ITS FALSE NEIGHBOUR: 'it returns false'. Refute it at one input. -/
def creditAllWrong : ChangeSpec := { name := "creditAll", fn := fun _ => fun
  | [d1, d2, d3] => { results := [.lit (.bool false)], args := [d1, d2, d3] }
  | _ => none }
def CreditAllWrongFalsely : Prop := creditAllRow.holds Try.pinned (OpenSpec.ofChange creditAllWrong)

/-- 'roadkeep4.CreditDrop': WHATEVER THE INPUT: true; the input reads as it did. -/
def creditDropSpec : ChangeSpec := { name := "creditDrop", fn := fun _ => fun
  | [d1, d2, d3, d4] => { results := [.lit (.bool true)], args := [d1, d2, d3, d4] }
  | _ => none }
def creditDropRow : OpenClaim := { program := "ytmdhhembkmkfdaa", sum := "3f66409d384388be468b78ed1b9e0061b6c77c478e137a030ff38e767c0bba5f", func := "roadstead/roadkeep4.CreditDrop", spec := "creditDrop", apart := false }
def CreditDropSaid : Prop := creditDropRow.holds Try.pinned (OpenSpec.ofChange creditDropSpec)

/-- ITS FALSE NEIGHBOUR: 'it returns false'. Refute it at one input. -/
def creditDropWrong : ChangeSpec := { name := "creditDrop", fn := fun _ => fun
  | [d1, d2, d3, d4] => { results := [.lit (.bool false)], args := [d1, d2, d3, d4] }
  | _ => none }
def CreditDropWrongFalsely : Prop := creditDropRow.holds Try.pinned (OpenSpec.ofChange creditDropWrong)

/-- 'roadkeep4.WeightHalves': WHATEVER THE INPUT: true; the input reads as it did. -/
def weightHalvesSpec : ChangeSpec := { name := "weightHalves", fn := fun _ => fun
  | [d] => { results := [.lit (.bool true)], args := [d] }
  | _ => none }
def weightHalvesRow : OpenClaim := { program := "ytmdhhembkmkfdaa", sum := "3f66409d384388be468b78ed1b9e0061b6c77c478e137a030ff38e767c0bba5f", func := "roadstead/roadkeep4.WeightHalves", spec := "weightHalves", apart := false }
def WeightHalvesSaid : Prop := weightHalvesRow.holds Try.pinned (OpenSpec.ofChange weightHalvesSpec)

/-- ITS FALSE NEIGHBOUR: 'it returns false'. Refute it at one input. -/
def weightHalvesWrong : ChangeSpec := { name := "weightHalves", fn := fun _ => fun
  | [d] => { results := [.lit (.bool false)], args := [d] }
  | _ => none }
def WeightHalvesWrongFalsely : Prop := weightHalvesRow.holds Try.pinned (OpenSpec.ofChange weightHalvesWrong)

/-- 'roadkeep4.WeightSafe': WHATEVER THE INPUT: true; the input reads as it did. -/
def weightSafeSpec : ChangeSpec := { name := "weightSafe", fn := fun _ => fun
  | [d] => { results := [.lit (.bool true)], args := [d] }
  | _ => none }
def weightSafeRow : OpenClaim := { program := "ytmdhhembkmkfdaa", sum := "3f66409d384388be468b78ed1b9e0061b6c77c478e137a030ff38e767c0bba5f", func := "roadstead/roadkeep4.WeightSafe", spec := "weightSafe", apart := false }
def WeightSafeSaid : Prop := weightSafeRow.holds Try.pinned (OpenSpec.ofChange weightSafeSpec)

/-- ITS FALSE NEIGHBOUR: 'it returns false'. Refute it at one input. -/
def weightSafeWrong : ChangeSpec := { name := "weightSafe", fn := fun _ => fun
  | [d] => { results := [.lit (.bool false)], args := [d] }
  | _ => none }
def WeightSafeWrongFalsely : Prop := weightSafeRow.holds Try.pinned (OpenSpec.ofChange weightSafeWrong)

/-- 'roadkeep4.WeightLive': WHATEVER THE INPUT: true; the input reads as it did. -/
def weightLiveSpec : ChangeSpec := { name := "weightLive", fn := fun _ => fun
  | [d] => { results := [.lit (.bool true)], args := [d] }
  | _ => none }
def weightLiveRow : OpenClaim := { program := "ytmdhhembkmkfdaa", sum := "3f66409d384388be468b78ed1b9e0061b6c77c478e137a030ff38e767c0bba5f", func := "roadstead/roadkeep4.WeightLive", spec := "weightLive", unfollowed := true, recurses := true, apart := false }
def WeightLiveSaid : Prop := weightLiveRow.holds Try.pinned (OpenSpec.ofChange weightLiveSpec)

/-- ITS FALSE NEIGHBOUR: 'it returns false'. Refute it at one input. -/
def weightLiveWrong : ChangeSpec := { name := "weightLive", fn := fun _ => fun
  | [d] => { results := [.lit (.bool false)], args := [d] }
  | _ => none }
def WeightLiveWrongFalsely : Prop := weightLiveRow.holds Try.pinned (OpenSpec.ofChange weightLiveWrong)

/- THE SECOND FORM. 'bulk': how many values and letters a reading holds, each counted each time it is reached (what is shared counts as often as it is met; a slice's spare places count too). A statement '..UptoSaid' is the law's where the arguments, and the package variables that the reading takes, are together of bulk at most 1048576: NARROWER than '..Said'. Prove '..Said' where nothing that the law and all that it calls make is longer than what came in: it says more and counts as full. Else prove '..UptoSaid'. A law counts once. -/
mutual
def uptoBulk {H : Type} : DataW H → Nat
  | .lit (.string bytes) => bytes.length + 1
  | .lit _ => 1
  | .nil => 1
  | .ptr d => uptoBulk d + 1
  | .slice elems spare => uptoBulkAll elems + uptoBulkAll spare + 1
  | .agg parts => uptoBulkAll parts + 1
  | .iface _ d => uptoBulk d + 1
  | .map entries => uptoBulkEntries entries + 1
  | .held _ => 1
def uptoBulkAll {H : Type} : List (DataW H) → Nat
  | [] => 0
  | d :: r => uptoBulk d + uptoBulkAll r
def uptoBulkEntries {H : Type} : List (Lit × DataW H) → Nat
  | [] => 0
  | x :: r => uptoBulkEntry x + uptoBulkEntries r
def uptoBulkEntry {H : Type} : Lit × DataW H → Nat
  | (.string bytes, d) => bytes.length + uptoBulk d + 1
  | (_, d) => uptoBulk d + 1
 end
def uptoSmall : (H : Type) → List (DataW H) → Bool := fun _ ds => decide (uptoBulkAll ds ≤ 1048576)
def OpenSpec.upto (s : _root_.Go.ChangeSpec) : _root_.Go.OpenSpec := { _root_.Go.OpenSpec.ofChange s with cond := some uptoSmall }

/-- 'roadkeep4.ClockJoin', WHERE WHAT IT READS IS OF BULK AT MOST 1048576: true; the input reads as it did. -/
def clockJoinUptoRow : OpenClaim := { program := "ytmdhhembkmkfdaa", sum := "3f66409d384388be468b78ed1b9e0061b6c77c478e137a030ff38e767c0bba5f", func := "roadstead/roadkeep4.ClockJoin", spec := "clockJoin", unfollowed := true, recurses := true, apart := false, narrowed := true }
def ClockJoinUptoSaid : Prop := clockJoinUptoRow.holds Try.pinned (OpenSpec.upto clockJoinSpec)

/-- 'roadkeep4.FenceRises', WHERE WHAT IT READS IS OF BULK AT MOST 1048576: true; the input reads as it did. -/
def fenceRisesUptoRow : OpenClaim := { program := "ytmdhhembkmkfdaa", sum := "3f66409d384388be468b78ed1b9e0061b6c77c478e137a030ff38e767c0bba5f", func := "roadstead/roadkeep4.FenceRises", spec := "fenceRises", apart := false, narrowed := true }
def FenceRisesUptoSaid : Prop := fenceRisesUptoRow.holds Try.pinned (OpenSpec.upto fenceRisesSpec)

/-- 'roadkeep4.FenceOne', WHERE WHAT IT READS IS OF BULK AT MOST 1048576: true; the input reads as it did. -/
def fenceOneUptoRow : OpenClaim := { program := "ytmdhhembkmkfdaa", sum := "3f66409d384388be468b78ed1b9e0061b6c77c478e137a030ff38e767c0bba5f", func := "roadstead/roadkeep4.FenceOne", spec := "fenceOne", apart := false, narrowed := true }
def FenceOneUptoSaid : Prop := fenceOneUptoRow.holds Try.pinned (OpenSpec.upto fenceOneSpec)

/-- 'roadkeep4.FenceLate', WHERE WHAT IT READS IS OF BULK AT MOST 1048576: true; the input reads as it did. -/
def fenceLateUptoRow : OpenClaim := { program := "ytmdhhembkmkfdaa", sum := "3f66409d384388be468b78ed1b9e0061b6c77c478e137a030ff38e767c0bba5f", func := "roadstead/roadkeep4.FenceLate", spec := "fenceLate", apart := false, narrowed := true }
def FenceLateUptoSaid : Prop := fenceLateUptoRow.holds Try.pinned (OpenSpec.upto fenceLateSpec)

/-- 'roadkeep4.ShrinkFew', WHERE WHAT IT READS IS OF BULK AT MOST 1048576: true; the input reads as it did. -/
def shrinkFewUptoRow : OpenClaim := { program := "ytmdhhembkmkfdaa", sum := "3f66409d384388be468b78ed1b9e0061b6c77c478e137a030ff38e767c0bba5f", func := "roadstead/roadkeep4.ShrinkFew", spec := "shrinkFew", unfollowed := true, recurses := true, apart := false, narrowed := true }
def ShrinkFewUptoSaid : Prop := shrinkFewUptoRow.holds Try.pinned (OpenSpec.upto shrinkFewSpec)

/-- 'roadkeep4.CreditTurns', WHERE WHAT IT READS IS OF BULK AT MOST 1048576: true; the input reads as it did. -/
def creditTurnsUptoRow : OpenClaim := { program := "ytmdhhembkmkfdaa", sum := "3f66409d384388be468b78ed1b9e0061b6c77c478e137a030ff38e767c0bba5f", func := "roadstead/roadkeep4.CreditTurns", spec := "creditTurns", apart := false, narrowed := true }
def CreditTurnsUptoSaid : Prop := creditTurnsUptoRow.holds Try.pinned (OpenSpec.upto creditTurnsSpec)

/-- 'roadkeep4.CreditRoom', WHERE WHAT IT READS IS OF BULK AT MOST 1048576: true; the input reads as it did. -/
def creditRoomUptoRow : OpenClaim := { program := "ytmdhhembkmkfdaa", sum := "3f66409d384388be468b78ed1b9e0061b6c77c478e137a030ff38e767c0bba5f", func := "roadstead/roadkeep4.CreditRoom", spec := "creditRoom", apart := false, narrowed := true }
def CreditRoomUptoSaid : Prop := creditRoomUptoRow.holds Try.pinned (OpenSpec.upto creditRoomSpec)

/-- 'roadkeep4.CreditAll', WHERE WHAT IT READS IS OF BULK AT MOST 1048576: true; the input reads as it did. -/
def creditAllUptoRow : OpenClaim := { program := "ytmdhhembkmkfdaa", sum := "3f66409d384388be468b78ed1b9e0061b6c77c478e137a030ff38e767c0bba5f", func := "roadstead/roadkeep4.CreditAll", spec := "creditAll", apart := false, narrowed := true }
def CreditAllUptoSaid : Prop := creditAllUptoRow.holds Try.pinned (OpenSpec.upto creditAllSpec)

/-- 'roadkeep4.CreditDrop', WHERE WHAT IT READS IS OF BULK AT MOST 1048576: true; the input reads as it did. -/
def creditDropUptoRow : OpenClaim := { program := "ytmdhhembkmkfdaa", sum := "3f66409d384388be468b78ed1b9e0061b6c77c478e137a030ff38e767c0bba5f", func := "roadstead/roadkeep4.CreditDrop", spec := "creditDrop", apart := false, narrowed := true }
def CreditDropUptoSaid : Prop := creditDropUptoRow.holds Try.pinned (OpenSpec.upto creditDropSpec)

/-- 'roadkeep4.WeightHalves', WHERE WHAT IT READS IS OF BULK AT MOST 1048576: true; the input reads as it did. -/
def weightHalvesUptoRow : OpenClaim := { program := "ytmdhhembkmkfdaa", sum := "3f66409d384388be468b78ed1b9e0061b6c77c478e137a030ff38e767c0bba5f", func := "roadstead/roadkeep4.WeightHalves", spec := "weightHalves", apart := false, narrowed := true }
def WeightHalvesUptoSaid : Prop := weightHalvesUptoRow.holds Try.pinned (OpenSpec.upto weightHalvesSpec)

/-- 'roadkeep4.WeightSafe', WHERE WHAT IT READS IS OF BULK AT MOST 1048576: true; the input reads as it did. -/
def weightSafeUptoRow : OpenClaim := { program := "ytmdhhembkmkfdaa", sum := "3f66409d384388be468b78ed1b9e0061b6c77c478e137a030ff38e767c0bba5f", func := "roadstead/roadkeep4.WeightSafe", spec := "weightSafe", apart := false, narrowed := true }
def WeightSafeUptoSaid : Prop := weightSafeUptoRow.holds Try.pinned (OpenSpec.upto weightSafeSpec)

/-- 'roadkeep4.WeightLive', WHERE WHAT IT READS IS OF BULK AT MOST 1048576: true; the input reads as it did. -/
def weightLiveUptoRow : OpenClaim := { program := "ytmdhhembkmkfdaa", sum := "3f66409d384388be468b78ed1b9e0061b6c77c478e137a030ff38e767c0bba5f", func := "roadstead/roadkeep4.WeightLive", spec := "weightLive", unfollowed := true, recurses := true, apart := false, narrowed := true }
def WeightLiveUptoSaid : Prop := weightLiveUptoRow.holds Try.pinned (OpenSpec.upto weightLiveSpec)

end Rows
end Go.Proofs.Ytmdhhembkmkfdaa
