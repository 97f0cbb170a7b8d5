/- LinkApart: the walk over the arguments as they come in. -/
import Derived.Test.YtcdeknbbeghljaaR18
import Derived.Test.YtcdeknbbeghljaaL17
namespace Go.Proofs.Ytcdeknbbeghljaa
open Go.ChangeShapes Go.WideShapes Go.ChangeAt Go.RowKit
set_option maxRecDepth 100000 in
theorem apart_row {H : Type} {enc : TypeId × Value → H} (W : World) (base : Nat) (v0 v1 : Value) {d0 d1 : DataW H} {p0 p1 : List MemPlace}
    (ok0 : Value.okWide Try.prog W .any base 22 v0) (h0 : DataW.Trod enc Try.prog W 0 (fun _ => true) true 22 v0 d0 p0)
    (ok1 : Value.okWide Try.prog W .any base 33 v1) (h1 : DataW.Trod enc Try.prog W 0 (fun _ => true) true 33 v1 d1 p1) :
    Calls Try.prog 9 #[v0, v1] W fun e w' => e = .returned (.bool true) ∧ Below W.heap.size W w' := by
  obtain ⟨ds, hd⟩ := open_dos ok0 h0
  obtain ⟨d, bA, bc, rfl, hb, hw⟩ := open_do ok1 h1
  exact apart_walk W v0 ds hd d hw bA bc hb
end Go.Proofs.Ytcdeknbbeghljaa
