/-
  No cell of these rows narrows 'for every input' (looked for: loops, veiled, ifaces, maps, wideKeys, modest, calm, conditions, laid).
  DERIVED. THE GIVEN ROWS OF THIS SEAT. 5 by the template 'for every input the law returns true; each argument reads behind the call as it read before'; 0 by the template 'total and deterministic' (their statements: YtklacfdbpmkiiaaTotals.lean).
  GIVEN WITH THE SEED: the statements are not yours to turn. If you find one false, say at which input.
  Laid BY PROGRAM, IN A SANDBOX (cutbox-rows.mjs): the forced cells as the released guide's own fill.sh prints them over the translation e971d89e11d45620… (all of the seat's roots in one cut). By AI agents, Wed Nov 11 2026. No macro, syntax, notation, axiom, sorry.
-/
import Derived.Test.YtklacfdbpmkiiaaChecked
import GoSem.Claim
import GoSem.ClaimJoined
import GoSem.ClaimMapViews
import Derived.JoinedTies
import Derived.KernelRfl
namespace Go.Proofs.Ytklacfdbpmkiiaa
/- THE CELL 'sum', in the pinned program and in every row, IS THE sha256 OF THE DUMP (.gsa) THAT YtklacfdbpmkiiaaProg.lean LOADS. Nothing in Lean hashes anything: it is a label: what it is worth is what the hold of that sum in a sandbox is worth. -/
noncomputable def Try.pinned : Pinned := { name := "ytklacfdbpmkiiaa", sum := "e971d89e11d456208b9d8c07a5385c243b0078d9c6a4859d0cf45bcd89b85cf3", checked := Try.checked }
namespace Rows
def none {H : Type} : Left H := { results := [], args := [] }

/-- 'roadtop.TopOrders': WHATEVER THE INPUT: true; the input reads as it did. -/
def topOrdersSpec : ChangeSpec := { name := "topOrders", fn := fun _ => fun
  | [d1, d2] => { results := [.lit (.bool true)], args := [d1, d2] }
  | _ => none }
def topOrdersRow : OpenClaim := { program := "ytklacfdbpmkiiaa", sum := "e971d89e11d456208b9d8c07a5385c243b0078d9c6a4859d0cf45bcd89b85cf3", func := "roadstead/roadtop.TopOrders", spec := "topOrders", unfollowed := true, recurses := true, plainKeys := false, apart := false }
def TopOrdersSaid : Prop := topOrdersRow.holds Try.pinned (OpenSpec.ofChange topOrdersSpec)

/-- ITS FALSE NEIGHBOUR: 'it returns false'. Refute it at one input. -/
def topOrdersWrong : ChangeSpec := { name := "topOrders", fn := fun _ => fun
  | [d1, d2] => { results := [.lit (.bool false)], args := [d1, d2] }
  | _ => none }
def TopOrdersWrongFalsely : Prop := topOrdersRow.holds Try.pinned (OpenSpec.ofChange topOrdersWrong)

/-- 'roadkeep4.ExploreAdds': WHATEVER THE INPUT: true; the input reads as it did. -/
def exploreAddsSpec : ChangeSpec := { name := "exploreAdds", fn := fun _ => fun
  | [d] => { results := [.lit (.bool true)], args := [d] }
  | _ => none }
def exploreAddsRow : OpenClaim := { program := "ytklacfdbpmkiiaa", sum := "e971d89e11d456208b9d8c07a5385c243b0078d9c6a4859d0cf45bcd89b85cf3", func := "roadstead/roadkeep4.ExploreAdds", spec := "exploreAdds", unfollowed := true, recurses := true, plainKeys := false, apart := false }
def ExploreAddsSaid : Prop := exploreAddsRow.holds Try.pinned (OpenSpec.ofChange exploreAddsSpec)

/-- ITS FALSE NEIGHBOUR: 'it returns false'. Refute it at one input. -/
def exploreAddsWrong : ChangeSpec := { name := "exploreAdds", fn := fun _ => fun
  | [d] => { results := [.lit (.bool false)], args := [d] }
  | _ => none }
def ExploreAddsWrongFalsely : Prop := exploreAddsRow.holds Try.pinned (OpenSpec.ofChange exploreAddsWrong)

/-- 'roadkeep4.ExploreApart': WHATEVER THE INPUT: true; the input reads as it did. -/
def exploreApartSpec : ChangeSpec := { name := "exploreApart", fn := fun _ => fun
  | [d] => { results := [.lit (.bool true)], args := [d] }
  | _ => none }
def exploreApartRow : OpenClaim := { program := "ytklacfdbpmkiiaa", sum := "e971d89e11d456208b9d8c07a5385c243b0078d9c6a4859d0cf45bcd89b85cf3", func := "roadstead/roadkeep4.ExploreApart", spec := "exploreApart", unfollowed := true, recurses := true, plainKeys := false, apart := false }
def ExploreApartSaid : Prop := exploreApartRow.holds Try.pinned (OpenSpec.ofChange exploreApartSpec)

/-- ITS FALSE NEIGHBOUR: 'it returns false'. Refute it at one input. -/
def exploreApartWrong : ChangeSpec := { name := "exploreApart", fn := fun _ => fun
  | [d] => { results := [.lit (.bool false)], args := [d] }
  | _ => none }
def ExploreApartWrongFalsely : Prop := exploreApartRow.holds Try.pinned (OpenSpec.ofChange exploreApartWrong)

/-- 'roadkeep4.ExploreSome': WHATEVER THE INPUT: true; the input reads as it did. -/
def exploreSomeSpec : ChangeSpec := { name := "exploreSome", fn := fun _ => fun
  | [d1, d2] => { results := [.lit (.bool true)], args := [d1, d2] }
  | _ => none }
def exploreSomeRow : OpenClaim := { program := "ytklacfdbpmkiiaa", sum := "e971d89e11d456208b9d8c07a5385c243b0078d9c6a4859d0cf45bcd89b85cf3", func := "roadstead/roadkeep4.ExploreSome", spec := "exploreSome", unfollowed := true, recurses := true, plainKeys := false, apart := false }
def ExploreSomeSaid : Prop := exploreSomeRow.holds Try.pinned (OpenSpec.ofChange exploreSomeSpec)

/-- ITS FALSE NEIGHBOUR: 'it returns false'. Refute it at one input. -/
def exploreSomeWrong : ChangeSpec := { name := "exploreSome", fn := fun _ => fun
  | [d1, d2] => { results := [.lit (.bool false)], args := [d1, d2] }
  | _ => none }
def ExploreSomeWrongFalsely : Prop := exploreSomeRow.holds Try.pinned (OpenSpec.ofChange exploreSomeWrong)

/-- 'roadkeep4.ExploreOrders': WHATEVER THE INPUT: true; the input reads as it did. -/
def exploreOrdersSpec : ChangeSpec := { name := "exploreOrders", fn := fun _ => fun
  | [d] => { results := [.lit (.bool true)], args := [d] }
  | _ => none }
def exploreOrdersRow : OpenClaim := { program := "ytklacfdbpmkiiaa", sum := "e971d89e11d456208b9d8c07a5385c243b0078d9c6a4859d0cf45bcd89b85cf3", func := "roadstead/roadkeep4.ExploreOrders", spec := "exploreOrders", unfollowed := true, recurses := true, plainKeys := false, apart := false }
def ExploreOrdersSaid : Prop := exploreOrdersRow.holds Try.pinned (OpenSpec.ofChange exploreOrdersSpec)

/-- ITS FALSE NEIGHBOUR: 'it returns false'. Refute it at one input. -/
def exploreOrdersWrong : ChangeSpec := { name := "exploreOrders", fn := fun _ => fun
  | [d] => { results := [.lit (.bool false)], args := [d] }
  | _ => none }
def ExploreOrdersWrongFalsely : Prop := exploreOrdersRow.holds Try.pinned (OpenSpec.ofChange exploreOrdersWrong)

/- THE SECOND FORM. 'bulk': how many values and letters a reading holds, each counted each time it is reached (what is shared counts as often as it is met; a slice's spare places count too). A statement '..UptoSaid' is the law's where the arguments, and the package variables that the reading takes, are together of bulk at most 1048576: NARROWER than '..Said'. Prove '..Said' where nothing that the law and all that it calls make is longer than what came in: it says more and counts as full. Else prove '..UptoSaid'. A law counts once. -/
mutual
def uptoBulk {H : Type} : DataW H → Nat
  | .lit (.string bytes) => bytes.length + 1
  | .lit _ => 1
  | .nil => 1
  | .ptr d => uptoBulk d + 1
  | .slice elems spare => uptoBulkAll elems + uptoBulkAll spare + 1
  | .agg parts => uptoBulkAll parts + 1
  | .iface _ d => uptoBulk d + 1
  | .map entries => uptoBulkEntries entries + 1
  | .held _ => 1
def uptoBulkAll {H : Type} : List (DataW H) → Nat
  | [] => 0
  | d :: r => uptoBulk d + uptoBulkAll r
def uptoBulkEntries {H : Type} : List (Lit × DataW H) → Nat
  | [] => 0
  | x :: r => uptoBulkEntry x + uptoBulkEntries r
def uptoBulkEntry {H : Type} : Lit × DataW H → Nat
  | (.string bytes, d) => bytes.length + uptoBulk d + 1
  | (_, d) => uptoBulk d + 1
 end
def uptoSmall : (H : Type) → List (DataW H) → Bool := fun _ ds => decide (uptoBulkAll ds ≤ 1048576)
def OpenSpec.upto (s : _root_.Go.ChangeSpec) : _root_.Go.OpenSpec := { _root_.Go.OpenSpec.ofChange s with cond := some uptoSmall }

/-- 'roadtop.TopOrders', WHERE WHAT IT READS IS OF BULK AT MOST 1048576: true; the input reads as it did. -/
def topOrdersUptoRow : OpenClaim := { program := "ytklacfdbpmkiiaa", sum := "e971d89e11d456208b9d8c07a5385c243b0078d9c6a4859d0cf45bcd89b85cf3", func := "roadstead/roadtop.TopOrders", spec := "topOrders", unfollowed := true, recurses := true, plainKeys := false, apart := false, narrowed := true }
def TopOrdersUptoSaid : Prop := topOrdersUptoRow.holds Try.pinned (OpenSpec.upto topOrdersSpec)

/-- 'roadkeep4.ExploreAdds', WHERE WHAT IT READS IS OF BULK AT MOST 1048576: true; the input reads as it did. -/
def exploreAddsUptoRow : OpenClaim := { program := "ytklacfdbpmkiiaa", sum := "e971d89e11d456208b9d8c07a5385c243b0078d9c6a4859d0cf45bcd89b85cf3", func := "roadstead/roadkeep4.ExploreAdds", spec := "exploreAdds", unfollowed := true, recurses := true, plainKeys := false, apart := false, narrowed := true }
def ExploreAddsUptoSaid : Prop := exploreAddsUptoRow.holds Try.pinned (OpenSpec.upto exploreAddsSpec)

/-- 'roadkeep4.ExploreApart', WHERE WHAT IT READS IS OF BULK AT MOST 1048576: true; the input reads as it did. -/
def exploreApartUptoRow : OpenClaim := { program := "ytklacfdbpmkiiaa", sum := "e971d89e11d456208b9d8c07a5385c243b0078d9c6a4859d0cf45bcd89b85cf3", func := "roadstead/roadkeep4.ExploreApart", spec := "exploreApart", unfollowed := true, recurses := true, plainKeys := false, apart := false, narrowed := true }
def ExploreApartUptoSaid : Prop := exploreApartUptoRow.holds Try.pinned (OpenSpec.upto exploreApartSpec)

/-- 'roadkeep4.ExploreSome', WHERE WHAT IT READS IS OF BULK AT MOST 1048576: true; the input reads as it did. -/
def exploreSomeUptoRow : OpenClaim := { program := "ytklacfdbpmkiiaa", sum := "e971d89e11d456208b9d8c07a5385c243b0078d9c6a4859d0cf45bcd89b85cf3", func := "roadstead/roadkeep4.ExploreSome", spec := "exploreSome", unfollowed := true, recurses := true, plainKeys := false, apart := false, narrowed := true }
def ExploreSomeUptoSaid : Prop := exploreSomeUptoRow.holds Try.pinned (OpenSpec.upto exploreSomeSpec)

/-- 'roadkeep4.ExploreOrders', WHERE WHAT IT READS IS OF BULK AT MOST 1048576: true; the input reads as it did. -/
def exploreOrdersUptoRow : OpenClaim := { program := "ytklacfdbpmkiiaa", sum := "e971d89e11d456208b9d8c07a5385c243b0078d9c6a4859d0cf45bcd89b85cf3", func := "roadstead/roadkeep4.ExploreOrders", spec := "exploreOrders", unfollowed := true, recurses := true, plainKeys := false, apart := false, narrowed := true }
def ExploreOrdersUptoSaid : Prop := exploreOrdersUptoRow.holds Try.pinned (OpenSpec.upto exploreOrdersSpec)

end Rows
end Go.Proofs.Ytklacfdbpmkiiaa
