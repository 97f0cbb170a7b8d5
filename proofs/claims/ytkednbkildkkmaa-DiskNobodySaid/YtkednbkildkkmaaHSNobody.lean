/- DiskNobody: the walk over the arguments as they come in. -/
import Derived.Test.YtkednbkildkkmaaHR
import Derived.Test.YtkednbkildkkmaaH5
import Derived.Test.YtkednbkildkkmaaH7
namespace Go.Proofs.Ytkednbkildkkmaa
open Go.ChangeShapes Go.WideShapes Go.ChangeAt Go.RowKit
open Disk
set_option maxRecDepth 100000 in
theorem nobody_row {H : Type} {enc : TypeId × Value → H} (W : World) (base : Nat) (v0 : Value) {d0 : DataW H} {p0 : List MemPlace}
    (ok0 : Value.okWide Try.prog W .any base 35 v0) (h0 : DataW.Trod enc Try.prog W 0 (fun _ => true) true 35 v0 d0 p0) :
    Calls Try.prog 6 #[v0] W fun e w' => e = .returned (.bool true) ∧ Below W.heap.size W w' := by
  obtain ⟨x0, bA0, bc0, kA0, kc0, rfl, hx0⟩ := open_doR ok0 h0
  exact nobody_walk W x0 bA0 kA0 bc0 kc0 hx0
end Go.Proofs.Ytkednbkildkkmaa
