/-
  DERIVED. GIVEN WITH THE SEED: THE CARDS: each row of YtahhpefgeeofhaaGreatDoorRows.lean that lists a variable, with what it lists TIED to the program's text (the seventh form; the later family's looks); each row that meets fmt, with fmt's text TOLD by the authors' own Lean function (tested against real Go, not proved from fmt's source: count such statements apart). THE CARD IS WHAT COUNTS. Prove the row's statement (the work); the ties are given (YtahhpefgeeofhaaGreatDoorTie.lean); close each card by the builder's one call (the guide's Derived/Test/ToyasCard.lean, 'card_holds'). Laid BY PROGRAM, IN A SANDBOX (cutbox-door.mjs). By AI agents, Wed Nov 11 2026. No macro, syntax, notation, axiom, sorry.
-/
import Derived.Test.YtahhpefgeeofhaaGreatDoorRows
import GoSem.ClaimSeven
namespace Go.Proofs.YtahhpefgeeofhaaGreatDoor
namespace Rows

/-- THE TIED CARD OF 'stemmalaw22.PeerNobody'. -/
def peerNobodyCard : Claim7 := { stood := { row := peerNobodyRow, standIns := [], harness := (true, "dd32e4340b18e7c2e8b222da83c210fc37e19cfecce32f225c80006906c29741"), looks := false }, kinds := [], alts := [], laidByText := true, laidKinds := [.data, .data], laidTests := true, laidLooks := .later }
def PeerNobodyCardSaid : Prop := Claim7.holds Tryz.pinned (.plain (OpenSpec.ofChange peerNobodySpec)) peerNobodyCard

/-- THE TIED CARD OF 'stemmalaw12.ViewSames'. -/
def viewSamesCard : Claim7 := { stood := { row := viewSamesRow, standIns := [], harness := (true, "dd32e4340b18e7c2e8b222da83c210fc37e19cfecce32f225c80006906c29741"), looks := false }, kinds := [], alts := [], laidByText := true, laidKinds := [.data, .data], laidTests := true, laidLooks := .later }
def ViewSamesCardSaid : Prop := Claim7.holds Tryz.pinned (.plain (OpenSpec.ofChange viewSamesSpec)) viewSamesCard

/-- THE TIED CARD OF 'stemmalaw12.ViewNobody'. -/
def viewNobodyCard : Claim7 := { stood := { row := viewNobodyRow, standIns := [], harness := (true, "dd32e4340b18e7c2e8b222da83c210fc37e19cfecce32f225c80006906c29741"), looks := false }, kinds := [], alts := [], laidByText := true, laidKinds := [.data, .data], laidTests := true, laidLooks := .later }
def ViewNobodyCardSaid : Prop := Claim7.holds Tryz.pinned (.plain (OpenSpec.ofChange viewNobodySpec)) viewNobodyCard

/-- THE SECOND FORM's CARD OF 'stemmalaw22.PeerNobody'. -/
def peerNobodyUptoCard : Claim7 := { stood := { row := peerNobodyUptoRow, standIns := [], harness := (true, "dd32e4340b18e7c2e8b222da83c210fc37e19cfecce32f225c80006906c29741"), looks := false }, kinds := [], alts := [], laidByText := true, laidKinds := [.data, .data], laidTests := true, laidLooks := .later }
def PeerNobodyUptoCardSaid : Prop := Claim7.holds Tryz.pinned (.plain (OpenSpec.upto peerNobodySpec)) peerNobodyUptoCard

/-- THE SECOND FORM's CARD OF 'stemmalaw12.ViewSames'. -/
def viewSamesUptoCard : Claim7 := { stood := { row := viewSamesUptoRow, standIns := [], harness := (true, "dd32e4340b18e7c2e8b222da83c210fc37e19cfecce32f225c80006906c29741"), looks := false }, kinds := [], alts := [], laidByText := true, laidKinds := [.data, .data], laidTests := true, laidLooks := .later }
def ViewSamesUptoCardSaid : Prop := Claim7.holds Tryz.pinned (.plain (OpenSpec.upto viewSamesSpec)) viewSamesUptoCard

/-- THE SECOND FORM's CARD OF 'stemmalaw12.ViewNobody'. -/
def viewNobodyUptoCard : Claim7 := { stood := { row := viewNobodyUptoRow, standIns := [], harness := (true, "dd32e4340b18e7c2e8b222da83c210fc37e19cfecce32f225c80006906c29741"), looks := false }, kinds := [], alts := [], laidByText := true, laidKinds := [.data, .data], laidTests := true, laidLooks := .later }
def ViewNobodyUptoCardSaid : Prop := Claim7.holds Tryz.pinned (.plain (OpenSpec.upto viewNobodySpec)) viewNobodyUptoCard
end Rows
end Go.Proofs.YtahhpefgeeofhaaGreatDoor
