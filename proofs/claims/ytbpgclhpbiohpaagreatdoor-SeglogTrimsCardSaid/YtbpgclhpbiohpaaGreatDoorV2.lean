/- SeglogTrims: the walk over the arguments as they come in. -/
import Derived.Test.YtbpgclhpbiohpaaGreatDoorU8
namespace Go.Proofs.YtbpgclhpbiohpaaGreatDoor
open Go.ChangeShapes Go.WideShapes Go.ChangeAt Go.RowKit
set_option maxRecDepth 100000 in
theorem trims_row {H : Type} {enc : TypeId × Value → H} (W : World) (base : Nat) (v0 v1 : Value) {d0 d1 : DataW H} {p0 p1 : List MemPlace}
    (ok0 : Value.okWide Tryz.prog W .any base 49 v0) (h0 : DataW.Trod enc Tryz.prog W 0 (fun _ => true) true 49 v0 d0 p0)
    (ok1 : Value.okWide Tryz.prog W .any base 3 v1) (h1 : DataW.Trod enc Tryz.prog W 0 (fun _ => true) true 3 v1 d1 p1) :
    Calls Tryz.prog 7 #[v0, v1] W fun e w' => e = .returned (.bool true) ∧ Below W.heap.size W w' := by
  obtain ⟨x0, hx0⟩ := open_dos ok0 h0
  obtain ⟨x1, rfl, -⟩ := open_intR Tryz.underlying3 ok1 h1
  exact trims_walk W v0 x0 hx0 x1 
end Go.Proofs.YtbpgclhpbiohpaaGreatDoor
