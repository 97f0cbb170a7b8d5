/- SeglogRefused: the walk over the arguments as they come in. -/
import Derived.Test.YtbpgclhpbiohpaaGreatDoorU10
namespace Go.Proofs.YtbpgclhpbiohpaaGreatDoor
open Go.ChangeShapes Go.WideShapes Go.ChangeAt Go.RowKit
set_option maxRecDepth 100000 in
theorem refused_row {H : Type} {enc : TypeId × Value → H} (W : World) (base : Nat) (v0 v1 v2 : Value) {d0 d1 d2 : DataW H} {p0 p1 p2 : List MemPlace}
    (ok0 : Value.okWide Tryz.prog W .any base 3 v0) (h0 : DataW.Trod enc Tryz.prog W 0 (fun _ => true) true 3 v0 d0 p0)
    (ok1 : Value.okWide Tryz.prog W .any base 49 v1) (h1 : DataW.Trod enc Tryz.prog W 0 (fun _ => true) true 49 v1 d1 p1)
    (ok2 : Value.okWide Tryz.prog W .any base 3 v2) (h2 : DataW.Trod enc Tryz.prog W 0 (fun _ => true) true 3 v2 d2 p2) :
    Calls Tryz.prog 5 #[v0, v1, v2] W fun e w' => e = .returned (.bool true) ∧ Below W.heap.size W w' := by
  obtain ⟨x0, rfl, -⟩ := open_intR Tryz.underlying3 ok0 h0
  obtain ⟨x1, hx1⟩ := open_dos ok1 h1
  obtain ⟨x2, rfl, -⟩ := open_intR Tryz.underlying3 ok2 h2
  exact refused_walk W x0 v1 x1 hx1 x2 
end Go.Proofs.YtbpgclhpbiohpaaGreatDoor
