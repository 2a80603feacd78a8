/-
  No cell of these rows narrows 'for every input' (looked for: loops, veiled, ifaces, maps, wideKeys, modest, calm, conditions, laid).
  DERIVED. THE GIVEN ROWS OF THIS SEAT. 10 by the template 'for every input the law returns true; each argument reads behind the call as it read before'; 0 by the template 'total and deterministic' (their statements: YtgkjkgooonicbaaTotals.lean).
  GIVEN WITH THE SEED: the statements are not yours to turn. If you find one false, say at which input.
  Laid BY PROGRAM, IN A SANDBOX (cutbox-rows.mjs): the forced cells as the released guide's own fill.sh prints them over the translation 4ea602b73d64ed20… (all of the seat's roots in one cut). By AI agents, Wed Nov 11 2026. No macro, syntax, notation, axiom, sorry.
-/
import Derived.Test.YtgkjkgooonicbaaChecked
import GoSem.Claim
import GoSem.ClaimJoined
import GoSem.ClaimMapViews
import Derived.JoinedTies
import Derived.KernelRfl
namespace Go.Proofs.Ytgkjkgooonicbaa
/- THE CELL 'sum', in the pinned program and in every row, IS THE sha256 OF THE DUMP (.gsa) THAT YtgkjkgooonicbaaProg.lean LOADS. Nothing in Lean hashes anything: it is a label: what it is worth is what the hold of that sum in a sandbox is worth. -/
noncomputable def Try.pinned : Pinned := { name := "ytgkjkgooonicbaa", sum := "4ea602b73d64ed20b218cfef007fa5f8b81bec0bce1b2d252e62f0901e259abf", checked := Try.checked }
namespace Rows
def none {H : Type} : Left H := { results := [], args := [] }

/-- 'roadkeep4.LineWindow': WHATEVER THE INPUT: true; the input reads as it did. -/
def lineWindowSpec : ChangeSpec := { name := "lineWindow", fn := fun _ => fun
  | [d1, d2, d3] => { results := [.lit (.bool true)], args := [d1, d2, d3] }
  | _ => none }
def lineWindowRow : OpenClaim := { program := "ytgkjkgooonicbaa", sum := "4ea602b73d64ed20b218cfef007fa5f8b81bec0bce1b2d252e62f0901e259abf", func := "roadstead/roadkeep4.LineWindow", spec := "lineWindow", apart := false }
def LineWindowSaid : Prop := lineWindowRow.holds Try.pinned (OpenSpec.ofChange lineWindowSpec)

/-- ITS FALSE NEIGHBOUR: 'it returns false'. Refute it at one input. -/
def lineWindowWrong : ChangeSpec := { name := "lineWindow", fn := fun _ => fun
  | [d1, d2, d3] => { results := [.lit (.bool false)], args := [d1, d2, d3] }
  | _ => none }
def LineWindowWrongFalsely : Prop := lineWindowRow.holds Try.pinned (OpenSpec.ofChange lineWindowWrong)

/-- 'roadkeep4.LineOwn': WHATEVER THE INPUT: true; the input reads as it did. -/
def lineOwnSpec : ChangeSpec := { name := "lineOwn", fn := fun _ => fun
  | [d] => { results := [.lit (.bool true)], args := [d] }
  | _ => none }
def lineOwnRow : OpenClaim := { program := "ytgkjkgooonicbaa", sum := "4ea602b73d64ed20b218cfef007fa5f8b81bec0bce1b2d252e62f0901e259abf", func := "roadstead/roadkeep4.LineOwn", spec := "lineOwn", unfollowed := true, recurses := true, apart := false }
def LineOwnSaid : Prop := lineOwnRow.holds Try.pinned (OpenSpec.ofChange lineOwnSpec)

/-- ITS FALSE NEIGHBOUR: 'it returns false'. Refute it at one input. -/
def lineOwnWrong : ChangeSpec := { name := "lineOwn", fn := fun _ => fun
  | [d] => { results := [.lit (.bool false)], args := [d] }
  | _ => none }
def LineOwnWrongFalsely : Prop := lineOwnRow.holds Try.pinned (OpenSpec.ofChange lineOwnWrong)

/-- 'roadkeep4.LineOnce': WHATEVER THE INPUT: true; the input reads as it did. -/
def lineOnceSpec : ChangeSpec := { name := "lineOnce", fn := fun _ => fun
  | [d1, d2, d3] => { results := [.lit (.bool true)], args := [d1, d2, d3] }
  | _ => none }
def lineOnceRow : OpenClaim := { program := "ytgkjkgooonicbaa", sum := "4ea602b73d64ed20b218cfef007fa5f8b81bec0bce1b2d252e62f0901e259abf", func := "roadstead/roadkeep4.LineOnce", spec := "lineOnce", unfollowed := true, recurses := true, apart := false }
def LineOnceSaid : Prop := lineOnceRow.holds Try.pinned (OpenSpec.ofChange lineOnceSpec)

/-- ITS FALSE NEIGHBOUR: 'it returns false'. Refute it at one input. -/
def lineOnceWrong : ChangeSpec := { name := "lineOnce", fn := fun _ => fun
  | [d1, d2, d3] => { results := [.lit (.bool false)], args := [d1, d2, d3] }
  | _ => none }
def LineOnceWrongFalsely : Prop := lineOnceRow.holds Try.pinned (OpenSpec.ofChange lineOnceWrong)

/-- 'roadkeep4.LineEnds': WHATEVER THE INPUT: true; the input reads as it did. -/
def lineEndsSpec : ChangeSpec := { name := "lineEnds", fn := fun _ => fun
  | [d1, d2, d3] => { results := [.lit (.bool true)], args := [d1, d2, d3] }
  | _ => none }
def lineEndsRow : OpenClaim := { program := "ytgkjkgooonicbaa", sum := "4ea602b73d64ed20b218cfef007fa5f8b81bec0bce1b2d252e62f0901e259abf", func := "roadstead/roadkeep4.LineEnds", spec := "lineEnds", unfollowed := true, recurses := true, apart := false }
def LineEndsSaid : Prop := lineEndsRow.holds Try.pinned (OpenSpec.ofChange lineEndsSpec)

/-- ITS FALSE NEIGHBOUR: 'it returns false'. Refute it at one input. -/
def lineEndsWrong : ChangeSpec := { name := "lineEnds", fn := fun _ => fun
  | [d1, d2, d3] => { results := [.lit (.bool false)], args := [d1, d2, d3] }
  | _ => none }
def LineEndsWrongFalsely : Prop := lineEndsRow.holds Try.pinned (OpenSpec.ofChange lineEndsWrong)

/-- 'roadkeep4.GossipDead': WHATEVER THE INPUT: true; the input reads as it did. -/
def gossipDeadSpec : ChangeSpec := { name := "gossipDead", fn := fun _ => fun
  | [d1, d2] => { results := [.lit (.bool true)], args := [d1, d2] }
  | _ => none }
def gossipDeadRow : OpenClaim := { program := "ytgkjkgooonicbaa", sum := "4ea602b73d64ed20b218cfef007fa5f8b81bec0bce1b2d252e62f0901e259abf", func := "roadstead/roadkeep4.GossipDead", spec := "gossipDead", inPlace := ["slices.overlaps[roadstead/gossip.Row]"], unfollowed := true, recurses := true, apart := false }
def GossipDeadSaid : Prop := gossipDeadRow.holds Try.pinned (OpenSpec.ofChange gossipDeadSpec)

/-- ITS FALSE NEIGHBOUR: 'it returns false'. Refute it at one input. -/
def gossipDeadWrong : ChangeSpec := { name := "gossipDead", fn := fun _ => fun
  | [d1, d2] => { results := [.lit (.bool false)], args := [d1, d2] }
  | _ => none }
def GossipDeadWrongFalsely : Prop := gossipDeadRow.holds Try.pinned (OpenSpec.ofChange gossipDeadWrong)

/-- 'roadkeep4.GossipGrows': WHATEVER THE INPUT: true; the input reads as it did. -/
def gossipGrowsSpec : ChangeSpec := { name := "gossipGrows", fn := fun _ => fun
  | [d] => { results := [.lit (.bool true)], args := [d] }
  | _ => none }
def gossipGrowsRow : OpenClaim := { program := "ytgkjkgooonicbaa", sum := "4ea602b73d64ed20b218cfef007fa5f8b81bec0bce1b2d252e62f0901e259abf", func := "roadstead/roadkeep4.GossipGrows", spec := "gossipGrows", inPlace := ["slices.overlaps[roadstead/gossip.Row]"], unfollowed := true, recurses := true, apart := false }
def GossipGrowsSaid : Prop := gossipGrowsRow.holds Try.pinned (OpenSpec.ofChange gossipGrowsSpec)

/-- ITS FALSE NEIGHBOUR: 'it returns false'. Refute it at one input. -/
def gossipGrowsWrong : ChangeSpec := { name := "gossipGrows", fn := fun _ => fun
  | [d] => { results := [.lit (.bool false)], args := [d] }
  | _ => none }
def GossipGrowsWrongFalsely : Prop := gossipGrowsRow.holds Try.pinned (OpenSpec.ofChange gossipGrowsWrong)

/-- 'roadkeep4.GossipJoin': WHATEVER THE INPUT: true; the input reads as it did. -/
def gossipJoinSpec : ChangeSpec := { name := "gossipJoin", fn := fun _ => fun
  | [d1, d2] => { results := [.lit (.bool true)], args := [d1, d2] }
  | _ => none }
def gossipJoinRow : OpenClaim := { program := "ytgkjkgooonicbaa", sum := "4ea602b73d64ed20b218cfef007fa5f8b81bec0bce1b2d252e62f0901e259abf", func := "roadstead/roadkeep4.GossipJoin", spec := "gossipJoin", inPlace := ["slices.overlaps[roadstead/gossip.Row]"], unfollowed := true, recurses := true, apart := false }
def GossipJoinSaid : Prop := gossipJoinRow.holds Try.pinned (OpenSpec.ofChange gossipJoinSpec)

/-- ITS FALSE NEIGHBOUR: 'it returns false'. Refute it at one input. -/
def gossipJoinWrong : ChangeSpec := { name := "gossipJoin", fn := fun _ => fun
  | [d1, d2] => { results := [.lit (.bool false)], args := [d1, d2] }
  | _ => none }
def GossipJoinWrongFalsely : Prop := gossipJoinRow.holds Try.pinned (OpenSpec.ofChange gossipJoinWrong)

/-- 'roadkeep4.GossipTurns': WHATEVER THE INPUT: true; the input reads as it did. -/
def gossipTurnsSpec : ChangeSpec := { name := "gossipTurns", fn := fun _ => fun
  | [d1, d2] => { results := [.lit (.bool true)], args := [d1, d2] }
  | _ => none }
def gossipTurnsRow : OpenClaim := { program := "ytgkjkgooonicbaa", sum := "4ea602b73d64ed20b218cfef007fa5f8b81bec0bce1b2d252e62f0901e259abf", func := "roadstead/roadkeep4.GossipTurns", spec := "gossipTurns", inPlace := ["slices.overlaps[roadstead/gossip.Row]"], unfollowed := true, recurses := true, apart := false }
def GossipTurnsSaid : Prop := gossipTurnsRow.holds Try.pinned (OpenSpec.ofChange gossipTurnsSpec)

/-- ITS FALSE NEIGHBOUR: 'it returns false'. Refute it at one input. -/
def gossipTurnsWrong : ChangeSpec := { name := "gossipTurns", fn := fun _ => fun
  | [d1, d2] => { results := [.lit (.bool false)], args := [d1, d2] }
  | _ => none }
def GossipTurnsWrongFalsely : Prop := gossipTurnsRow.holds Try.pinned (OpenSpec.ofChange gossipTurnsWrong)

/-- 'roadkeep4.GossipNext': WHATEVER THE INPUT: true; the input reads as it did. -/
def gossipNextSpec : ChangeSpec := { name := "gossipNext", fn := fun _ => fun
  | [d1, d2, d3] => { results := [.lit (.bool true)], args := [d1, d2, d3] }
  | _ => none }
def gossipNextRow : OpenClaim := { program := "ytgkjkgooonicbaa", sum := "4ea602b73d64ed20b218cfef007fa5f8b81bec0bce1b2d252e62f0901e259abf", func := "roadstead/roadkeep4.GossipNext", spec := "gossipNext", inPlace := ["slices.overlaps[roadstead/gossip.Row]"], unfollowed := true, recurses := true, apart := false }
def GossipNextSaid : Prop := gossipNextRow.holds Try.pinned (OpenSpec.ofChange gossipNextSpec)

/-- ITS FALSE NEIGHBOUR: 'it returns false'. Refute it at one input. -/
def gossipNextWrong : ChangeSpec := { name := "gossipNext", fn := fun _ => fun
  | [d1, d2, d3] => { results := [.lit (.bool false)], args := [d1, d2, d3] }
  | _ => none }
def GossipNextWrongFalsely : Prop := gossipNextRow.holds Try.pinned (OpenSpec.ofChange gossipNextWrong)

/-- 'roadkeep4.GossipAgree': WHATEVER THE INPUT: true; the input reads as it did. -/
def gossipAgreeSpec : ChangeSpec := { name := "gossipAgree", fn := fun _ => fun
  | [d] => { results := [.lit (.bool true)], args := [d] }
  | _ => none }
def gossipAgreeRow : OpenClaim := { program := "ytgkjkgooonicbaa", sum := "4ea602b73d64ed20b218cfef007fa5f8b81bec0bce1b2d252e62f0901e259abf", func := "roadstead/roadkeep4.GossipAgree", spec := "gossipAgree", inPlace := ["slices.overlaps[roadstead/gossip.Row]"], unfollowed := true, recurses := true, apart := false }
def GossipAgreeSaid : Prop := gossipAgreeRow.holds Try.pinned (OpenSpec.ofChange gossipAgreeSpec)

/-- ITS FALSE NEIGHBOUR: 'it returns false'. Refute it at one input. -/
def gossipAgreeWrong : ChangeSpec := { name := "gossipAgree", fn := fun _ => fun
  | [d] => { results := [.lit (.bool false)], args := [d] }
  | _ => none }
def GossipAgreeWrongFalsely : Prop := gossipAgreeRow.holds Try.pinned (OpenSpec.ofChange gossipAgreeWrong)

/- THE SECOND FORM. 'bulk': how many values and letters a reading holds, each counted each time it is reached (what is shared counts as often as it is met; a slice's spare places count too). A statement '..UptoSaid' is the law's where the arguments, and the package variables that the reading takes, are together of bulk at most 1048576: NARROWER than '..Said'. Prove '..Said' where nothing that the law and all that it calls make is longer than what came in: it says more and counts as full. Else prove '..UptoSaid'. A law counts once. -/
mutual
def uptoBulk {H : Type} : DataW H → Nat
  | .lit (.string bytes) => bytes.length + 1
  | .lit _ => 1
  | .nil => 1
  | .ptr d => uptoBulk d + 1
  | .slice elems spare => uptoBulkAll elems + uptoBulkAll spare + 1
  | .agg parts => uptoBulkAll parts + 1
  | .iface _ d => uptoBulk d + 1
  | .map entries => uptoBulkEntries entries + 1
  | .held _ => 1
def uptoBulkAll {H : Type} : List (DataW H) → Nat
  | [] => 0
  | d :: r => uptoBulk d + uptoBulkAll r
def uptoBulkEntries {H : Type} : List (Lit × DataW H) → Nat
  | [] => 0
  | x :: r => uptoBulkEntry x + uptoBulkEntries r
def uptoBulkEntry {H : Type} : Lit × DataW H → Nat
  | (.string bytes, d) => bytes.length + uptoBulk d + 1
  | (_, d) => uptoBulk d + 1
 end
def uptoSmall : (H : Type) → List (DataW H) → Bool := fun _ ds => decide (uptoBulkAll ds ≤ 1048576)
def OpenSpec.upto (s : _root_.Go.ChangeSpec) : _root_.Go.OpenSpec := { _root_.Go.OpenSpec.ofChange s with cond := some uptoSmall }

/-- 'roadkeep4.LineWindow', WHERE WHAT IT READS IS OF BULK AT MOST 1048576: true; the input reads as it did. -/
def lineWindowUptoRow : OpenClaim := { program := "ytgkjkgooonicbaa", sum := "4ea602b73d64ed20b218cfef007fa5f8b81bec0bce1b2d252e62f0901e259abf", func := "roadstead/roadkeep4.LineWindow", spec := "lineWindow", apart := false, narrowed := true }
def LineWindowUptoSaid : Prop := lineWindowUptoRow.holds Try.pinned (OpenSpec.upto lineWindowSpec)

/-- 'roadkeep4.LineOwn', WHERE WHAT IT READS IS OF BULK AT MOST 1048576: true; the input reads as it did. -/
def lineOwnUptoRow : OpenClaim := { program := "ytgkjkgooonicbaa", sum := "4ea602b73d64ed20b218cfef007fa5f8b81bec0bce1b2d252e62f0901e259abf", func := "roadstead/roadkeep4.LineOwn", spec := "lineOwn", unfollowed := true, recurses := true, apart := false, narrowed := true }
def LineOwnUptoSaid : Prop := lineOwnUptoRow.holds Try.pinned (OpenSpec.upto lineOwnSpec)

/-- 'roadkeep4.LineOnce', WHERE WHAT IT READS IS OF BULK AT MOST 1048576: true; the input reads as it did. -/
def lineOnceUptoRow : OpenClaim := { program := "ytgkjkgooonicbaa", sum := "4ea602b73d64ed20b218cfef007fa5f8b81bec0bce1b2d252e62f0901e259abf", func := "roadstead/roadkeep4.LineOnce", spec := "lineOnce", unfollowed := true, recurses := true, apart := false, narrowed := true }
def LineOnceUptoSaid : Prop := lineOnceUptoRow.holds Try.pinned (OpenSpec.upto lineOnceSpec)

/-- 'roadkeep4.LineEnds', WHERE WHAT IT READS IS OF BULK AT MOST 1048576: true; the input reads as it did. -/
def lineEndsUptoRow : OpenClaim := { program := "ytgkjkgooonicbaa", sum := "4ea602b73d64ed20b218cfef007fa5f8b81bec0bce1b2d252e62f0901e259abf", func := "roadstead/roadkeep4.LineEnds", spec := "lineEnds", unfollowed := true, recurses := true, apart := false, narrowed := true }
def LineEndsUptoSaid : Prop := lineEndsUptoRow.holds Try.pinned (OpenSpec.upto lineEndsSpec)

/-- 'roadkeep4.GossipDead', WHERE WHAT IT READS IS OF BULK AT MOST 1048576: true; the input reads as it did. -/
def gossipDeadUptoRow : OpenClaim := { program := "ytgkjkgooonicbaa", sum := "4ea602b73d64ed20b218cfef007fa5f8b81bec0bce1b2d252e62f0901e259abf", func := "roadstead/roadkeep4.GossipDead", spec := "gossipDead", inPlace := ["slices.overlaps[roadstead/gossip.Row]"], unfollowed := true, recurses := true, apart := false, narrowed := true }
def GossipDeadUptoSaid : Prop := gossipDeadUptoRow.holds Try.pinned (OpenSpec.upto gossipDeadSpec)

/-- 'roadkeep4.GossipGrows', WHERE WHAT IT READS IS OF BULK AT MOST 1048576: true; the input reads as it did. -/
def gossipGrowsUptoRow : OpenClaim := { program := "ytgkjkgooonicbaa", sum := "4ea602b73d64ed20b218cfef007fa5f8b81bec0bce1b2d252e62f0901e259abf", func := "roadstead/roadkeep4.GossipGrows", spec := "gossipGrows", inPlace := ["slices.overlaps[roadstead/gossip.Row]"], unfollowed := true, recurses := true, apart := false, narrowed := true }
def GossipGrowsUptoSaid : Prop := gossipGrowsUptoRow.holds Try.pinned (OpenSpec.upto gossipGrowsSpec)

/-- 'roadkeep4.GossipJoin', WHERE WHAT IT READS IS OF BULK AT MOST 1048576: true; the input reads as it did. -/
def gossipJoinUptoRow : OpenClaim := { program := "ytgkjkgooonicbaa", sum := "4ea602b73d64ed20b218cfef007fa5f8b81bec0bce1b2d252e62f0901e259abf", func := "roadstead/roadkeep4.GossipJoin", spec := "gossipJoin", inPlace := ["slices.overlaps[roadstead/gossip.Row]"], unfollowed := true, recurses := true, apart := false, narrowed := true }
def GossipJoinUptoSaid : Prop := gossipJoinUptoRow.holds Try.pinned (OpenSpec.upto gossipJoinSpec)

/-- 'roadkeep4.GossipTurns', WHERE WHAT IT READS IS OF BULK AT MOST 1048576: true; the input reads as it did. -/
def gossipTurnsUptoRow : OpenClaim := { program := "ytgkjkgooonicbaa", sum := "4ea602b73d64ed20b218cfef007fa5f8b81bec0bce1b2d252e62f0901e259abf", func := "roadstead/roadkeep4.GossipTurns", spec := "gossipTurns", inPlace := ["slices.overlaps[roadstead/gossip.Row]"], unfollowed := true, recurses := true, apart := false, narrowed := true }
def GossipTurnsUptoSaid : Prop := gossipTurnsUptoRow.holds Try.pinned (OpenSpec.upto gossipTurnsSpec)

/-- 'roadkeep4.GossipNext', WHERE WHAT IT READS IS OF BULK AT MOST 1048576: true; the input reads as it did. -/
def gossipNextUptoRow : OpenClaim := { program := "ytgkjkgooonicbaa", sum := "4ea602b73d64ed20b218cfef007fa5f8b81bec0bce1b2d252e62f0901e259abf", func := "roadstead/roadkeep4.GossipNext", spec := "gossipNext", inPlace := ["slices.overlaps[roadstead/gossip.Row]"], unfollowed := true, recurses := true, apart := false, narrowed := true }
def GossipNextUptoSaid : Prop := gossipNextUptoRow.holds Try.pinned (OpenSpec.upto gossipNextSpec)

/-- 'roadkeep4.GossipAgree', WHERE WHAT IT READS IS OF BULK AT MOST 1048576: true; the input reads as it did. -/
def gossipAgreeUptoRow : OpenClaim := { program := "ytgkjkgooonicbaa", sum := "4ea602b73d64ed20b218cfef007fa5f8b81bec0bce1b2d252e62f0901e259abf", func := "roadstead/roadkeep4.GossipAgree", spec := "gossipAgree", inPlace := ["slices.overlaps[roadstead/gossip.Row]"], unfollowed := true, recurses := true, apart := false, narrowed := true }
def GossipAgreeUptoSaid : Prop := gossipAgreeUptoRow.holds Try.pinned (OpenSpec.upto gossipAgreeSpec)

end Rows
end Go.Proofs.Ytgkjkgooonicbaa
