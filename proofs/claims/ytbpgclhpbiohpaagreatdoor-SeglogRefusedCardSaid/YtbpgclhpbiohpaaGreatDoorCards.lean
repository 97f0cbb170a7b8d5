/-
  DERIVED. GIVEN WITH THE SEED: THE CARDS: each row of YtbpgclhpbiohpaaGreatDoorRows.lean that lists a variable, with what it lists TIED to the program's text (the seventh form; the later family's looks); each row that meets fmt, with fmt's text TOLD by the authors' own Lean function (tested against real Go, not proved from fmt's source: count such statements apart). THE CARD IS WHAT COUNTS. Prove the row's statement (the work); the ties are given (YtbpgclhpbiohpaaGreatDoorTie.lean); close each card by the builder's one call (the guide's Derived/Test/ToyasCard.lean, 'card_holds'). Laid BY PROGRAM, IN A SANDBOX (cutbox-door.mjs). By AI agents, Wed Nov 11 2026. No macro, syntax, notation, axiom, sorry.
-/
import Derived.Test.YtbpgclhpbiohpaaGreatDoorRows
import GoSem.ClaimSeven
namespace Go.Proofs.YtbpgclhpbiohpaaGreatDoor
namespace Rows

/-- THE TIED CARD OF 'blotterlaw05.SeglogNobody'. -/
def seglogNobodyCard : Claim7 := { stood := { row := seglogNobodyRow, standIns := [], harness := (true, "3e93440e11beb8fbe1694fc5391c53103bee0b8a0c53f0a0c7cde5b477682f8e"), looks := true }, kinds := [], alts := [], laidByText := true, laidKinds := [.data, .data, .data, .sentinel, .sentinel], laidTests := true, laidLooks := .later }
def SeglogNobodyCardSaid : Prop := Claim7.holds Tryz.pinned (.plain (OpenSpec.ofChange seglogNobodySpec)) seglogNobodyCard

/-- THE TIED CARD OF 'blotterlaw05.SeglogStays'. -/
def seglogStaysCard : Claim7 := { stood := { row := seglogStaysRow, standIns := [], harness := (true, "3e93440e11beb8fbe1694fc5391c53103bee0b8a0c53f0a0c7cde5b477682f8e"), looks := true }, kinds := [], alts := [], laidByText := true, laidKinds := [.data, .data, .data, .sentinel, .sentinel], laidTests := true, laidLooks := .later }
def SeglogStaysCardSaid : Prop := Claim7.holds Tryz.pinned (.plain (OpenSpec.ofChange seglogStaysSpec)) seglogStaysCard

/-- THE TIED CARD OF 'blotterlaw05.SeglogRefused'. -/
def seglogRefusedCard : Claim7 := { stood := { row := seglogRefusedRow, standIns := [], harness := (true, "3e93440e11beb8fbe1694fc5391c53103bee0b8a0c53f0a0c7cde5b477682f8e"), looks := true }, kinds := [], alts := [], laidByText := true, laidKinds := [.data, .data, .data, .sentinel, .sentinel], laidTests := true, laidLooks := .later }
def SeglogRefusedCardSaid : Prop := Claim7.holds Tryz.pinned (.plain (OpenSpec.ofChange seglogRefusedSpec)) seglogRefusedCard

/-- THE TIED CARD OF 'blotterlaw05.SeglogReads'. -/
def seglogReadsCard : Claim7 := { stood := { row := seglogReadsRow, standIns := [], harness := (true, "3e93440e11beb8fbe1694fc5391c53103bee0b8a0c53f0a0c7cde5b477682f8e"), looks := true }, kinds := [], alts := [], laidByText := true, laidKinds := [.data, .data, .data, .sentinel, .sentinel], laidTests := true, laidLooks := .later }
def SeglogReadsCardSaid : Prop := Claim7.holds Tryz.pinned (.plain (OpenSpec.ofChange seglogReadsSpec)) seglogReadsCard

/-- THE TIED CARD OF 'blotterlaw05.SeglogTrims'. -/
def seglogTrimsCard : Claim7 := { stood := { row := seglogTrimsRow, standIns := [], harness := (true, "3e93440e11beb8fbe1694fc5391c53103bee0b8a0c53f0a0c7cde5b477682f8e"), looks := true }, kinds := [], alts := [], laidByText := true, laidKinds := [.data, .data, .data, .sentinel, .sentinel], laidTests := true, laidLooks := .later }
def SeglogTrimsCardSaid : Prop := Claim7.holds Tryz.pinned (.plain (OpenSpec.ofChange seglogTrimsSpec)) seglogTrimsCard

/-- THE TIED CARD OF 'blotterlaw05.SeglogAgain'. -/
def seglogAgainCard : Claim7 := { stood := { row := seglogAgainRow, standIns := [], harness := (true, "3e93440e11beb8fbe1694fc5391c53103bee0b8a0c53f0a0c7cde5b477682f8e"), looks := true }, kinds := [], alts := [], laidByText := true, laidKinds := [.data, .data, .data, .sentinel, .sentinel], laidTests := true, laidLooks := .later }
def SeglogAgainCardSaid : Prop := Claim7.holds Tryz.pinned (.plain (OpenSpec.ofChange seglogAgainSpec)) seglogAgainCard

/-- THE TIED CARD OF 'blotterlaw05.SeglogOpens'. -/
def seglogOpensCard : Claim7 := { stood := { row := seglogOpensRow, standIns := [], harness := (true, "3e93440e11beb8fbe1694fc5391c53103bee0b8a0c53f0a0c7cde5b477682f8e"), looks := true }, kinds := [], alts := [], laidByText := true, laidKinds := [.data, .data, .data, .sentinel, .sentinel], laidTests := true, laidLooks := .later }
def SeglogOpensCardSaid : Prop := Claim7.holds Tryz.pinned (.plain (OpenSpec.ofChange seglogOpensSpec)) seglogOpensCard

/-- THE SECOND FORM's CARD OF 'blotterlaw05.SeglogNobody'. -/
def seglogNobodyUptoCard : Claim7 := { stood := { row := seglogNobodyUptoRow, standIns := [], harness := (true, "3e93440e11beb8fbe1694fc5391c53103bee0b8a0c53f0a0c7cde5b477682f8e"), looks := true }, kinds := [], alts := [], laidByText := true, laidKinds := [.data, .data, .data, .sentinel, .sentinel], laidTests := true, laidLooks := .later }
def SeglogNobodyUptoCardSaid : Prop := Claim7.holds Tryz.pinned (.plain (OpenSpec.upto seglogNobodySpec)) seglogNobodyUptoCard

/-- THE SECOND FORM's CARD OF 'blotterlaw05.SeglogStays'. -/
def seglogStaysUptoCard : Claim7 := { stood := { row := seglogStaysUptoRow, standIns := [], harness := (true, "3e93440e11beb8fbe1694fc5391c53103bee0b8a0c53f0a0c7cde5b477682f8e"), looks := true }, kinds := [], alts := [], laidByText := true, laidKinds := [.data, .data, .data, .sentinel, .sentinel], laidTests := true, laidLooks := .later }
def SeglogStaysUptoCardSaid : Prop := Claim7.holds Tryz.pinned (.plain (OpenSpec.upto seglogStaysSpec)) seglogStaysUptoCard

/-- THE SECOND FORM's CARD OF 'blotterlaw05.SeglogRefused'. -/
def seglogRefusedUptoCard : Claim7 := { stood := { row := seglogRefusedUptoRow, standIns := [], harness := (true, "3e93440e11beb8fbe1694fc5391c53103bee0b8a0c53f0a0c7cde5b477682f8e"), looks := true }, kinds := [], alts := [], laidByText := true, laidKinds := [.data, .data, .data, .sentinel, .sentinel], laidTests := true, laidLooks := .later }
def SeglogRefusedUptoCardSaid : Prop := Claim7.holds Tryz.pinned (.plain (OpenSpec.upto seglogRefusedSpec)) seglogRefusedUptoCard

/-- THE SECOND FORM's CARD OF 'blotterlaw05.SeglogReads'. -/
def seglogReadsUptoCard : Claim7 := { stood := { row := seglogReadsUptoRow, standIns := [], harness := (true, "3e93440e11beb8fbe1694fc5391c53103bee0b8a0c53f0a0c7cde5b477682f8e"), looks := true }, kinds := [], alts := [], laidByText := true, laidKinds := [.data, .data, .data, .sentinel, .sentinel], laidTests := true, laidLooks := .later }
def SeglogReadsUptoCardSaid : Prop := Claim7.holds Tryz.pinned (.plain (OpenSpec.upto seglogReadsSpec)) seglogReadsUptoCard

/-- THE SECOND FORM's CARD OF 'blotterlaw05.SeglogTrims'. -/
def seglogTrimsUptoCard : Claim7 := { stood := { row := seglogTrimsUptoRow, standIns := [], harness := (true, "3e93440e11beb8fbe1694fc5391c53103bee0b8a0c53f0a0c7cde5b477682f8e"), looks := true }, kinds := [], alts := [], laidByText := true, laidKinds := [.data, .data, .data, .sentinel, .sentinel], laidTests := true, laidLooks := .later }
def SeglogTrimsUptoCardSaid : Prop := Claim7.holds Tryz.pinned (.plain (OpenSpec.upto seglogTrimsSpec)) seglogTrimsUptoCard

/-- THE SECOND FORM's CARD OF 'blotterlaw05.SeglogAgain'. -/
def seglogAgainUptoCard : Claim7 := { stood := { row := seglogAgainUptoRow, standIns := [], harness := (true, "3e93440e11beb8fbe1694fc5391c53103bee0b8a0c53f0a0c7cde5b477682f8e"), looks := true }, kinds := [], alts := [], laidByText := true, laidKinds := [.data, .data, .data, .sentinel, .sentinel], laidTests := true, laidLooks := .later }
def SeglogAgainUptoCardSaid : Prop := Claim7.holds Tryz.pinned (.plain (OpenSpec.upto seglogAgainSpec)) seglogAgainUptoCard

/-- THE SECOND FORM's CARD OF 'blotterlaw05.SeglogOpens'. -/
def seglogOpensUptoCard : Claim7 := { stood := { row := seglogOpensUptoRow, standIns := [], harness := (true, "3e93440e11beb8fbe1694fc5391c53103bee0b8a0c53f0a0c7cde5b477682f8e"), looks := true }, kinds := [], alts := [], laidByText := true, laidKinds := [.data, .data, .data, .sentinel, .sentinel], laidTests := true, laidLooks := .later }
def SeglogOpensUptoCardSaid : Prop := Claim7.holds Tryz.pinned (.plain (OpenSpec.upto seglogOpensSpec)) seglogOpensUptoCard
end Rows
end Go.Proofs.YtbpgclhpbiohpaaGreatDoor
