/-
  DERIVED. GIVEN WITH THE SEED: THE CARDS: each row of YtdbhccehbjhbpaaGreatDoorRows.lean that lists a variable, with what it lists TIED to the program's text (the seventh form; the later family's looks); each row that meets fmt, with fmt's text TOLD by the authors' own Lean function (tested against real Go, not proved from fmt's source: count such statements apart). THE CARD IS WHAT COUNTS. Prove the row's statement (the work); the ties are given (YtdbhccehbjhbpaaGreatDoorTie.lean); close each card by the builder's one call (the guide's Derived/Test/ToyasCard.lean, 'card_holds'). Laid BY PROGRAM, IN A SANDBOX (cutbox-door.mjs). By AI agents, Wed Nov 11 2026. No macro, syntax, notation, axiom, sorry.
-/
import Derived.Test.YtdbhccehbjhbpaaGreatDoorRows
import GoSem.ClaimSeven
namespace Go.Proofs.YtdbhccehbjhbpaaGreatDoor
namespace Rows

/-- THE TIED CARD OF 'blotterlaw06.KvstoreNews'. -/
def kvstoreNewsCard : Claim7 := { stood := { row := kvstoreNewsRow, standIns := [], harness := (true, "eb9094a7155e1d85b76b888d59e15e6941a60a16cae4aed8c574af0eff3c70c6"), looks := true }, kinds := [], alts := [], laidByText := true, laidKinds := [.data, .data, .data, .sentinel, .sentinel], laidTests := true, laidLooks := .later }
def KvstoreNewsCardSaid : Prop := Claim7.holds Tryz.pinned (.plain (OpenSpec.ofChange kvstoreNewsSpec)) kvstoreNewsCard

/-- THE TIED CARD OF 'blotterlaw06.KvstoreAsked'. -/
def kvstoreAskedCard : Claim7 := { stood := { row := kvstoreAskedRow, standIns := [], harness := (true, "eb9094a7155e1d85b76b888d59e15e6941a60a16cae4aed8c574af0eff3c70c6"), looks := true }, kinds := [], alts := [], laidByText := true, laidKinds := [.data, .data, .data, .sentinel, .sentinel], laidTests := true, laidLooks := .later }
def KvstoreAskedCardSaid : Prop := Claim7.holds Tryz.pinned (.plain (OpenSpec.ofChange kvstoreAskedSpec)) kvstoreAskedCard

/-- THE TIED CARD OF 'blotterlaw06.KvstoreWrites'. -/
def kvstoreWritesCard : Claim7 := { stood := { row := kvstoreWritesRow, standIns := [], harness := (true, "eb9094a7155e1d85b76b888d59e15e6941a60a16cae4aed8c574af0eff3c70c6"), looks := true }, kinds := [], alts := [], laidByText := true, laidKinds := [.data, .data, .data, .sentinel, .sentinel], laidTests := true, laidLooks := .later }
def KvstoreWritesCardSaid : Prop := Claim7.holds Tryz.pinned (.plain (OpenSpec.ofChange kvstoreWritesSpec)) kvstoreWritesCard

/-- THE TIED CARD OF 'blotterlaw06.KvstorePieces'. -/
def kvstorePiecesCard : Claim7 := { stood := { row := kvstorePiecesRow, standIns := [], harness := (true, "eb9094a7155e1d85b76b888d59e15e6941a60a16cae4aed8c574af0eff3c70c6"), looks := true }, kinds := [], alts := [], laidByText := true, laidKinds := [.data, .data, .data, .sentinel, .sentinel], laidTests := true, laidLooks := .later }
def KvstorePiecesCardSaid : Prop := Claim7.holds Tryz.pinned (.plain (OpenSpec.ofChange kvstorePiecesSpec)) kvstorePiecesCard

/-- THE TIED CARD OF 'blotterlaw06.KvstoreFull'. -/
def kvstoreFullCard : Claim7 := { stood := { row := kvstoreFullRow, standIns := [], harness := (true, "eb9094a7155e1d85b76b888d59e15e6941a60a16cae4aed8c574af0eff3c70c6"), looks := true }, kinds := [], alts := [], laidByText := true, laidKinds := [.data, .data, .data, .sentinel, .sentinel], laidTests := true, laidLooks := .later }
def KvstoreFullCardSaid : Prop := Claim7.holds Tryz.pinned (.plain (OpenSpec.ofChange kvstoreFullSpec)) kvstoreFullCard

/-- THE TIED CARD OF 'blotterlaw06.KvstoreNobody'. -/
def kvstoreNobodyCard : Claim7 := { stood := { row := kvstoreNobodyRow, standIns := [], harness := (true, "eb9094a7155e1d85b76b888d59e15e6941a60a16cae4aed8c574af0eff3c70c6"), looks := true }, kinds := [], alts := [], laidByText := true, laidKinds := [.data, .data, .data, .sentinel, .sentinel], laidTests := true, laidLooks := .later }
def KvstoreNobodyCardSaid : Prop := Claim7.holds Tryz.pinned (.plain (OpenSpec.ofChange kvstoreNobodySpec)) kvstoreNobodyCard

/-- THE SECOND FORM's CARD OF 'blotterlaw06.KvstoreNews'. -/
def kvstoreNewsUptoCard : Claim7 := { stood := { row := kvstoreNewsUptoRow, standIns := [], harness := (true, "eb9094a7155e1d85b76b888d59e15e6941a60a16cae4aed8c574af0eff3c70c6"), looks := true }, kinds := [], alts := [], laidByText := true, laidKinds := [.data, .data, .data, .sentinel, .sentinel], laidTests := true, laidLooks := .later }
def KvstoreNewsUptoCardSaid : Prop := Claim7.holds Tryz.pinned (.plain (OpenSpec.upto kvstoreNewsSpec)) kvstoreNewsUptoCard

/-- THE SECOND FORM's CARD OF 'blotterlaw06.KvstoreAsked'. -/
def kvstoreAskedUptoCard : Claim7 := { stood := { row := kvstoreAskedUptoRow, standIns := [], harness := (true, "eb9094a7155e1d85b76b888d59e15e6941a60a16cae4aed8c574af0eff3c70c6"), looks := true }, kinds := [], alts := [], laidByText := true, laidKinds := [.data, .data, .data, .sentinel, .sentinel], laidTests := true, laidLooks := .later }
def KvstoreAskedUptoCardSaid : Prop := Claim7.holds Tryz.pinned (.plain (OpenSpec.upto kvstoreAskedSpec)) kvstoreAskedUptoCard

/-- THE SECOND FORM's CARD OF 'blotterlaw06.KvstoreWrites'. -/
def kvstoreWritesUptoCard : Claim7 := { stood := { row := kvstoreWritesUptoRow, standIns := [], harness := (true, "eb9094a7155e1d85b76b888d59e15e6941a60a16cae4aed8c574af0eff3c70c6"), looks := true }, kinds := [], alts := [], laidByText := true, laidKinds := [.data, .data, .data, .sentinel, .sentinel], laidTests := true, laidLooks := .later }
def KvstoreWritesUptoCardSaid : Prop := Claim7.holds Tryz.pinned (.plain (OpenSpec.upto kvstoreWritesSpec)) kvstoreWritesUptoCard

/-- THE SECOND FORM's CARD OF 'blotterlaw06.KvstorePieces'. -/
def kvstorePiecesUptoCard : Claim7 := { stood := { row := kvstorePiecesUptoRow, standIns := [], harness := (true, "eb9094a7155e1d85b76b888d59e15e6941a60a16cae4aed8c574af0eff3c70c6"), looks := true }, kinds := [], alts := [], laidByText := true, laidKinds := [.data, .data, .data, .sentinel, .sentinel], laidTests := true, laidLooks := .later }
def KvstorePiecesUptoCardSaid : Prop := Claim7.holds Tryz.pinned (.plain (OpenSpec.upto kvstorePiecesSpec)) kvstorePiecesUptoCard

/-- THE SECOND FORM's CARD OF 'blotterlaw06.KvstoreFull'. -/
def kvstoreFullUptoCard : Claim7 := { stood := { row := kvstoreFullUptoRow, standIns := [], harness := (true, "eb9094a7155e1d85b76b888d59e15e6941a60a16cae4aed8c574af0eff3c70c6"), looks := true }, kinds := [], alts := [], laidByText := true, laidKinds := [.data, .data, .data, .sentinel, .sentinel], laidTests := true, laidLooks := .later }
def KvstoreFullUptoCardSaid : Prop := Claim7.holds Tryz.pinned (.plain (OpenSpec.upto kvstoreFullSpec)) kvstoreFullUptoCard

/-- THE SECOND FORM's CARD OF 'blotterlaw06.KvstoreNobody'. -/
def kvstoreNobodyUptoCard : Claim7 := { stood := { row := kvstoreNobodyUptoRow, standIns := [], harness := (true, "eb9094a7155e1d85b76b888d59e15e6941a60a16cae4aed8c574af0eff3c70c6"), looks := true }, kinds := [], alts := [], laidByText := true, laidKinds := [.data, .data, .data, .sentinel, .sentinel], laidTests := true, laidLooks := .later }
def KvstoreNobodyUptoCardSaid : Prop := Claim7.holds Tryz.pinned (.plain (OpenSpec.upto kvstoreNobodySpec)) kvstoreNobodyUptoCard
end Rows
end Go.Proofs.YtdbhccehbjhbpaaGreatDoor
