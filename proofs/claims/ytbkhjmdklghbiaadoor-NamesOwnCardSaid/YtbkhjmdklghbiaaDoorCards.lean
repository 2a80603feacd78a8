/-
  DERIVED. GIVEN WITH THE SEED: THE CARDS: each row of YtbkhjmdklghbiaaDoorRows.lean that lists a variable, with what it lists TIED to the program's text (the seventh form; the later family's looks); each row that meets fmt, with fmt's text TOLD by the authors' own Lean function (tested against real Go, not proved from fmt's source: count such statements apart). THE CARD IS WHAT COUNTS. Prove the row's statement (the work); the ties are given (YtbkhjmdklghbiaaDoorTie.lean); close each card by the builder's one call (the guide's Derived/Test/ToyasCard.lean, 'card_holds'). Laid BY PROGRAM, IN A SANDBOX (cutbox-door.mjs). By AI agents, Wed Nov 11 2026. No macro, syntax, notation, axiom, sorry.
-/
import Derived.Test.YtbkhjmdklghbiaaDoorRows
import GoSem.ClaimSeven
namespace Go.Proofs.YtbkhjmdklghbiaaDoor
namespace Rows

/-- THE TIED CARD OF 'roadkeep4.NamesLast'. -/
def namesLastCard : Claim7 := { stood := { row := namesLastRow, standIns := [], harness := (true, "ac2783bffb708b169048f55a81510070ce4456ab7c8bde8b6c260da6b7938721"), looks := false }, kinds := [], alts := [], laidByText := true, laidKinds := [.data, .pinned], laidTests := true, laidLooks := .later }
def NamesLastCardSaid : Prop := Claim7.holds Tryd.pinned (.plain (OpenSpec.ofChange namesLastSpec)) namesLastCard

/-- THE TIED CARD OF 'roadkeep4.NamesAgree'. -/
def namesAgreeCard : Claim7 := { stood := { row := namesAgreeRow, standIns := [], harness := (true, "ac2783bffb708b169048f55a81510070ce4456ab7c8bde8b6c260da6b7938721"), looks := false }, kinds := [], alts := [], laidByText := true, laidKinds := [.data, .pinned], laidTests := true, laidLooks := .later }
def NamesAgreeCardSaid : Prop := Claim7.holds Tryd.pinned (.plain (OpenSpec.ofChange namesAgreeSpec)) namesAgreeCard

/-- THE TIED CARD OF 'roadkeep4.NamesJoin'. -/
def namesJoinCard : Claim7 := { stood := { row := namesJoinRow, standIns := [], harness := (true, "ac2783bffb708b169048f55a81510070ce4456ab7c8bde8b6c260da6b7938721"), looks := false }, kinds := [], alts := [], laidByText := true, laidKinds := [.data, .pinned], laidTests := true, laidLooks := .later }
def NamesJoinCardSaid : Prop := Claim7.holds Tryd.pinned (.plain (OpenSpec.ofChange namesJoinSpec)) namesJoinCard

/-- THE TIED CARD OF 'roadkeep4.NamesApart'. -/
def namesApartCard : Claim7 := { stood := { row := namesApartRow, standIns := [], harness := (true, "ac2783bffb708b169048f55a81510070ce4456ab7c8bde8b6c260da6b7938721"), looks := false }, kinds := [], alts := [], laidByText := true, laidKinds := [.data, .pinned], laidTests := true, laidLooks := .later }
def NamesApartCardSaid : Prop := Claim7.holds Tryd.pinned (.plain (OpenSpec.ofChange namesApartSpec)) namesApartCard

/-- THE TIED CARD OF 'roadkeep4.NamesOwn'. -/
def namesOwnCard : Claim7 := { stood := { row := namesOwnRow, standIns := [], harness := (true, "ac2783bffb708b169048f55a81510070ce4456ab7c8bde8b6c260da6b7938721"), looks := false }, kinds := [], alts := [], laidByText := true, laidKinds := [.data, .pinned], laidTests := true, laidLooks := .later }
def NamesOwnCardSaid : Prop := Claim7.holds Tryd.pinned (.plain (OpenSpec.ofChange namesOwnSpec)) namesOwnCard

/-- THE SECOND FORM's CARD OF 'roadkeep4.NamesLast'. -/
def namesLastUptoCard : Claim7 := { stood := { row := namesLastUptoRow, standIns := [], harness := (true, "ac2783bffb708b169048f55a81510070ce4456ab7c8bde8b6c260da6b7938721"), looks := false }, kinds := [], alts := [], laidByText := true, laidKinds := [.data, .pinned], laidTests := true, laidLooks := .later }
def NamesLastUptoCardSaid : Prop := Claim7.holds Tryd.pinned (.plain (OpenSpec.upto namesLastSpec)) namesLastUptoCard

/-- THE SECOND FORM's CARD OF 'roadkeep4.NamesAgree'. -/
def namesAgreeUptoCard : Claim7 := { stood := { row := namesAgreeUptoRow, standIns := [], harness := (true, "ac2783bffb708b169048f55a81510070ce4456ab7c8bde8b6c260da6b7938721"), looks := false }, kinds := [], alts := [], laidByText := true, laidKinds := [.data, .pinned], laidTests := true, laidLooks := .later }
def NamesAgreeUptoCardSaid : Prop := Claim7.holds Tryd.pinned (.plain (OpenSpec.upto namesAgreeSpec)) namesAgreeUptoCard

/-- THE SECOND FORM's CARD OF 'roadkeep4.NamesJoin'. -/
def namesJoinUptoCard : Claim7 := { stood := { row := namesJoinUptoRow, standIns := [], harness := (true, "ac2783bffb708b169048f55a81510070ce4456ab7c8bde8b6c260da6b7938721"), looks := false }, kinds := [], alts := [], laidByText := true, laidKinds := [.data, .pinned], laidTests := true, laidLooks := .later }
def NamesJoinUptoCardSaid : Prop := Claim7.holds Tryd.pinned (.plain (OpenSpec.upto namesJoinSpec)) namesJoinUptoCard

/-- THE SECOND FORM's CARD OF 'roadkeep4.NamesApart'. -/
def namesApartUptoCard : Claim7 := { stood := { row := namesApartUptoRow, standIns := [], harness := (true, "ac2783bffb708b169048f55a81510070ce4456ab7c8bde8b6c260da6b7938721"), looks := false }, kinds := [], alts := [], laidByText := true, laidKinds := [.data, .pinned], laidTests := true, laidLooks := .later }
def NamesApartUptoCardSaid : Prop := Claim7.holds Tryd.pinned (.plain (OpenSpec.upto namesApartSpec)) namesApartUptoCard

/-- THE SECOND FORM's CARD OF 'roadkeep4.NamesOwn'. -/
def namesOwnUptoCard : Claim7 := { stood := { row := namesOwnUptoRow, standIns := [], harness := (true, "ac2783bffb708b169048f55a81510070ce4456ab7c8bde8b6c260da6b7938721"), looks := false }, kinds := [], alts := [], laidByText := true, laidKinds := [.data, .pinned], laidTests := true, laidLooks := .later }
def NamesOwnUptoCardSaid : Prop := Claim7.holds Tryd.pinned (.plain (OpenSpec.upto namesOwnSpec)) namesOwnUptoCard
end Rows
end Go.Proofs.YtbkhjmdklghbiaaDoor
