/-
  No cell of these rows narrows 'for every input' (looked for: loops, veiled, ifaces, maps, wideKeys, modest, calm, conditions, laid).
  DERIVED. THE GIVEN ROWS OF THIS SEAT. 7 by the template 'for every input the law returns true; each argument reads behind the call as it read before'; 0 by the template 'total and deterministic' (their statements: YtcdeknbbeghljaaTotals.lean).
  GIVEN WITH THE SEED: the statements are not yours to turn. If you find one false, say at which input.
  Laid BY PROGRAM, IN A SANDBOX (cutbox-rows.mjs): the forced cells as the released guide's own fill.sh prints them over the translation 189d13766107c60d… (all of the seat's roots in one cut). By AI agents, Wed Nov 11 2026. No macro, syntax, notation, axiom, sorry.
-/
import Derived.Test.YtcdeknbbeghljaaChecked
import GoSem.Claim
import GoSem.ClaimJoined
import GoSem.ClaimMapViews
import Derived.JoinedTies
import Derived.KernelRfl
namespace Go.Proofs.Ytcdeknbbeghljaa
/- THE CELL 'sum', in the pinned program and in every row, IS THE sha256 OF THE DUMP (.gsa) THAT YtcdeknbbeghljaaProg.lean LOADS. Nothing in Lean hashes anything: it is a label: what it is worth is what the hold of that sum in a sandbox is worth. -/
noncomputable def Try.pinned : Pinned := { name := "ytcdeknbbeghljaa", sum := "189d13766107c60d5f044f27e6977f9d8ea9e765c703c4fff1df07171f6fa2d7", checked := Try.checked }
namespace Rows
def none {H : Type} : Left H := { results := [], args := [] }

/-- 'blotterlaw03.LinkOrder': WHATEVER THE INPUT: true; the input reads as it did. -/
def linkOrderSpec : ChangeSpec := { name := "linkOrder", fn := fun _ => fun
  | [d] => { results := [.lit (.bool true)], args := [d] }
  | _ => none }
def linkOrderRow : OpenClaim := { program := "ytcdeknbbeghljaa", sum := "189d13766107c60d5f044f27e6977f9d8ea9e765c703c4fff1df07171f6fa2d7", func := "blotter/blotterlaw03.LinkOrder", spec := "linkOrder", apart := false }
def LinkOrderSaid : Prop := linkOrderRow.holds Try.pinned (OpenSpec.ofChange linkOrderSpec)

/-- ITS FALSE NEIGHBOUR: 'it returns false'. Refute it at one input. -/
def linkOrderWrong : ChangeSpec := { name := "linkOrder", fn := fun _ => fun
  | [d] => { results := [.lit (.bool false)], args := [d] }
  | _ => none }
def LinkOrderWrongFalsely : Prop := linkOrderRow.holds Try.pinned (OpenSpec.ofChange linkOrderWrong)

/-- 'blotterlaw03.LinkPieces': WHATEVER THE INPUT: true; the input reads as it did. -/
def linkPiecesSpec : ChangeSpec := { name := "linkPieces", fn := fun _ => fun
  | [d1, d2, d3] => { results := [.lit (.bool true)], args := [d1, d2, d3] }
  | _ => none }
def linkPiecesRow : OpenClaim := { program := "ytcdeknbbeghljaa", sum := "189d13766107c60d5f044f27e6977f9d8ea9e765c703c4fff1df07171f6fa2d7", func := "blotter/blotterlaw03.LinkPieces", spec := "linkPieces", apart := false }
def LinkPiecesSaid : Prop := linkPiecesRow.holds Try.pinned (OpenSpec.ofChange linkPiecesSpec)

/-- ITS FALSE NEIGHBOUR: 'it returns false'. Refute it at one input. -/
def linkPiecesWrong : ChangeSpec := { name := "linkPieces", fn := fun _ => fun
  | [d1, d2, d3] => { results := [.lit (.bool false)], args := [d1, d2, d3] }
  | _ => none }
def LinkPiecesWrongFalsely : Prop := linkPiecesRow.holds Try.pinned (OpenSpec.ofChange linkPiecesWrong)

/-- 'blotterlaw03.LinkOnce': WHATEVER THE INPUT: true; the input reads as it did. -/
def linkOnceSpec : ChangeSpec := { name := "linkOnce", fn := fun _ => fun
  | [d] => { results := [.lit (.bool true)], args := [d] }
  | _ => none }
def linkOnceRow : OpenClaim := { program := "ytcdeknbbeghljaa", sum := "189d13766107c60d5f044f27e6977f9d8ea9e765c703c4fff1df07171f6fa2d7", func := "blotter/blotterlaw03.LinkOnce", spec := "linkOnce", unfollowed := true, recurses := true, apart := false }
def LinkOnceSaid : Prop := linkOnceRow.holds Try.pinned (OpenSpec.ofChange linkOnceSpec)

/-- ITS FALSE NEIGHBOUR: 'it returns false'. Refute it at one input. -/
def linkOnceWrong : ChangeSpec := { name := "linkOnce", fn := fun _ => fun
  | [d] => { results := [.lit (.bool false)], args := [d] }
  | _ => none }
def LinkOnceWrongFalsely : Prop := linkOnceRow.holds Try.pinned (OpenSpec.ofChange linkOnceWrong)

/-- 'blotterlaw03.LinkNobody': WHATEVER THE INPUT: true; the input reads as it did. -/
def linkNobodySpec : ChangeSpec := { name := "linkNobody", fn := fun _ => fun
  | [d] => { results := [.lit (.bool true)], args := [d] }
  | _ => none }
def linkNobodyRow : OpenClaim := { program := "ytcdeknbbeghljaa", sum := "189d13766107c60d5f044f27e6977f9d8ea9e765c703c4fff1df07171f6fa2d7", func := "blotter/blotterlaw03.LinkNobody", spec := "linkNobody", unfollowed := true, recurses := true, apart := false }
def LinkNobodySaid : Prop := linkNobodyRow.holds Try.pinned (OpenSpec.ofChange linkNobodySpec)

/-- ITS FALSE NEIGHBOUR: 'it returns false'. Refute it at one input. -/
def linkNobodyWrong : ChangeSpec := { name := "linkNobody", fn := fun _ => fun
  | [d] => { results := [.lit (.bool false)], args := [d] }
  | _ => none }
def LinkNobodyWrongFalsely : Prop := linkNobodyRow.holds Try.pinned (OpenSpec.ofChange linkNobodyWrong)

/-- 'blotterlaw03.LinkGone': WHATEVER THE INPUT: true; the input reads as it did. -/
def linkGoneSpec : ChangeSpec := { name := "linkGone", fn := fun _ => fun
  | [d1, d2, d3] => { results := [.lit (.bool true)], args := [d1, d2, d3] }
  | _ => none }
def linkGoneRow : OpenClaim := { program := "ytcdeknbbeghljaa", sum := "189d13766107c60d5f044f27e6977f9d8ea9e765c703c4fff1df07171f6fa2d7", func := "blotter/blotterlaw03.LinkGone", spec := "linkGone", unfollowed := true, recurses := true, apart := false }
def LinkGoneSaid : Prop := linkGoneRow.holds Try.pinned (OpenSpec.ofChange linkGoneSpec)

/-- ITS FALSE NEIGHBOUR: 'it returns false'. Refute it at one input. -/
def linkGoneWrong : ChangeSpec := { name := "linkGone", fn := fun _ => fun
  | [d1, d2, d3] => { results := [.lit (.bool false)], args := [d1, d2, d3] }
  | _ => none }
def LinkGoneWrongFalsely : Prop := linkGoneRow.holds Try.pinned (OpenSpec.ofChange linkGoneWrong)

/-- 'blotterlaw03.LinkLives': WHATEVER THE INPUT: true; the input reads as it did. -/
def linkLivesSpec : ChangeSpec := { name := "linkLives", fn := fun _ => fun
  | [d] => { results := [.lit (.bool true)], args := [d] }
  | _ => none }
def linkLivesRow : OpenClaim := { program := "ytcdeknbbeghljaa", sum := "189d13766107c60d5f044f27e6977f9d8ea9e765c703c4fff1df07171f6fa2d7", func := "blotter/blotterlaw03.LinkLives", spec := "linkLives", unfollowed := true, recurses := true, apart := false }
def LinkLivesSaid : Prop := linkLivesRow.holds Try.pinned (OpenSpec.ofChange linkLivesSpec)

/-- ITS FALSE NEIGHBOUR: 'it returns false'. Refute it at one input. -/
def linkLivesWrong : ChangeSpec := { name := "linkLives", fn := fun _ => fun
  | [d] => { results := [.lit (.bool false)], args := [d] }
  | _ => none }
def LinkLivesWrongFalsely : Prop := linkLivesRow.holds Try.pinned (OpenSpec.ofChange linkLivesWrong)

/-- 'blotterlaw03.LinkApart': WHATEVER THE INPUT: true; the input reads as it did. -/
def linkApartSpec : ChangeSpec := { name := "linkApart", fn := fun _ => fun
  | [d1, d2] => { results := [.lit (.bool true)], args := [d1, d2] }
  | _ => none }
def linkApartRow : OpenClaim := { program := "ytcdeknbbeghljaa", sum := "189d13766107c60d5f044f27e6977f9d8ea9e765c703c4fff1df07171f6fa2d7", func := "blotter/blotterlaw03.LinkApart", spec := "linkApart", unfollowed := true, recurses := true, apart := false }
def LinkApartSaid : Prop := linkApartRow.holds Try.pinned (OpenSpec.ofChange linkApartSpec)

/-- ITS FALSE NEIGHBOUR: 'it returns false'. Refute it at one input. -/
def linkApartWrong : ChangeSpec := { name := "linkApart", fn := fun _ => fun
  | [d1, d2] => { results := [.lit (.bool false)], args := [d1, d2] }
  | _ => none }
def LinkApartWrongFalsely : Prop := linkApartRow.holds Try.pinned (OpenSpec.ofChange linkApartWrong)

/- THE SECOND FORM. 'bulk': how many values and letters a reading holds, each counted each time it is reached (what is shared counts as often as it is met; a slice's spare places count too). A statement '..UptoSaid' is the law's where the arguments, and the package variables that the reading takes, are together of bulk at most 1048576: NARROWER than '..Said'. Prove '..Said' where nothing that the law and all that it calls make is longer than what came in: it says more and counts as full. Else prove '..UptoSaid'. A law counts once. -/
mutual
def uptoBulk {H : Type} : DataW H → Nat
  | .lit (.string bytes) => bytes.length + 1
  | .lit _ => 1
  | .nil => 1
  | .ptr d => uptoBulk d + 1
  | .slice elems spare => uptoBulkAll elems + uptoBulkAll spare + 1
  | .agg parts => uptoBulkAll parts + 1
  | .iface _ d => uptoBulk d + 1
  | .map entries => uptoBulkEntries entries + 1
  | .held _ => 1
def uptoBulkAll {H : Type} : List (DataW H) → Nat
  | [] => 0
  | d :: r => uptoBulk d + uptoBulkAll r
def uptoBulkEntries {H : Type} : List (Lit × DataW H) → Nat
  | [] => 0
  | x :: r => uptoBulkEntry x + uptoBulkEntries r
def uptoBulkEntry {H : Type} : Lit × DataW H → Nat
  | (.string bytes, d) => bytes.length + uptoBulk d + 1
  | (_, d) => uptoBulk d + 1
 end
def uptoSmall : (H : Type) → List (DataW H) → Bool := fun _ ds => decide (uptoBulkAll ds ≤ 1048576)
def OpenSpec.upto (s : _root_.Go.ChangeSpec) : _root_.Go.OpenSpec := { _root_.Go.OpenSpec.ofChange s with cond := some uptoSmall }

/-- 'blotterlaw03.LinkOrder', WHERE WHAT IT READS IS OF BULK AT MOST 1048576: true; the input reads as it did. -/
def linkOrderUptoRow : OpenClaim := { program := "ytcdeknbbeghljaa", sum := "189d13766107c60d5f044f27e6977f9d8ea9e765c703c4fff1df07171f6fa2d7", func := "blotter/blotterlaw03.LinkOrder", spec := "linkOrder", apart := false, narrowed := true }
def LinkOrderUptoSaid : Prop := linkOrderUptoRow.holds Try.pinned (OpenSpec.upto linkOrderSpec)

/-- 'blotterlaw03.LinkPieces', WHERE WHAT IT READS IS OF BULK AT MOST 1048576: true; the input reads as it did. -/
def linkPiecesUptoRow : OpenClaim := { program := "ytcdeknbbeghljaa", sum := "189d13766107c60d5f044f27e6977f9d8ea9e765c703c4fff1df07171f6fa2d7", func := "blotter/blotterlaw03.LinkPieces", spec := "linkPieces", apart := false, narrowed := true }
def LinkPiecesUptoSaid : Prop := linkPiecesUptoRow.holds Try.pinned (OpenSpec.upto linkPiecesSpec)

/-- 'blotterlaw03.LinkOnce', WHERE WHAT IT READS IS OF BULK AT MOST 1048576: true; the input reads as it did. -/
def linkOnceUptoRow : OpenClaim := { program := "ytcdeknbbeghljaa", sum := "189d13766107c60d5f044f27e6977f9d8ea9e765c703c4fff1df07171f6fa2d7", func := "blotter/blotterlaw03.LinkOnce", spec := "linkOnce", unfollowed := true, recurses := true, apart := false, narrowed := true }
def LinkOnceUptoSaid : Prop := linkOnceUptoRow.holds Try.pinned (OpenSpec.upto linkOnceSpec)

/-- 'blotterlaw03.LinkNobody', WHERE WHAT IT READS IS OF BULK AT MOST 1048576: true; the input reads as it did. -/
def linkNobodyUptoRow : OpenClaim := { program := "ytcdeknbbeghljaa", sum := "189d13766107c60d5f044f27e6977f9d8ea9e765c703c4fff1df07171f6fa2d7", func := "blotter/blotterlaw03.LinkNobody", spec := "linkNobody", unfollowed := true, recurses := true, apart := false, narrowed := true }
def LinkNobodyUptoSaid : Prop := linkNobodyUptoRow.holds Try.pinned (OpenSpec.upto linkNobodySpec)

/-- 'blotterlaw03.LinkGone', WHERE WHAT IT READS IS OF BULK AT MOST 1048576: true; the input reads as it did. -/
def linkGoneUptoRow : OpenClaim := { program := "ytcdeknbbeghljaa", sum := "189d13766107c60d5f044f27e6977f9d8ea9e765c703c4fff1df07171f6fa2d7", func := "blotter/blotterlaw03.LinkGone", spec := "linkGone", unfollowed := true, recurses := true, apart := false, narrowed := true }
def LinkGoneUptoSaid : Prop := linkGoneUptoRow.holds Try.pinned (OpenSpec.upto linkGoneSpec)

/-- 'blotterlaw03.LinkLives', WHERE WHAT IT READS IS OF BULK AT MOST 1048576: true; the input reads as it did. -/
def linkLivesUptoRow : OpenClaim := { program := "ytcdeknbbeghljaa", sum := "189d13766107c60d5f044f27e6977f9d8ea9e765c703c4fff1df07171f6fa2d7", func := "blotter/blotterlaw03.LinkLives", spec := "linkLives", unfollowed := true, recurses := true, apart := false, narrowed := true }
def LinkLivesUptoSaid : Prop := linkLivesUptoRow.holds Try.pinned (OpenSpec.upto linkLivesSpec)

/-- 'blotterlaw03.LinkApart', WHERE WHAT IT READS IS OF BULK AT MOST 1048576: true; the input reads as it did. -/
def linkApartUptoRow : OpenClaim := { program := "ytcdeknbbeghljaa", sum := "189d13766107c60d5f044f27e6977f9d8ea9e765c703c4fff1df07171f6fa2d7", func := "blotter/blotterlaw03.LinkApart", spec := "linkApart", unfollowed := true, recurses := true, apart := false, narrowed := true }
def LinkApartUptoSaid : Prop := linkApartUptoRow.holds Try.pinned (OpenSpec.upto linkApartSpec)

end Rows
end Go.Proofs.Ytcdeknbbeghljaa
