/- LinkGone: the walk over the arguments as they come in. -/
import Derived.Test.YtcdeknbbeghljaaR15
namespace Go.Proofs.Ytcdeknbbeghljaa
open Go.ChangeShapes Go.WideShapes Go.ChangeAt Go.RowKit
set_option maxRecDepth 100000 in
theorem gone_row {H : Type} {enc : TypeId × Value → H} (W : World) (base : Nat) (v0 v1 v2 : Value) {d0 d1 d2 : DataW H} {p0 p1 p2 : List MemPlace}
    (ok0 : Value.okWide Try.prog W .any base 22 v0) (h0 : DataW.Trod enc Try.prog W 0 (fun _ => true) true 22 v0 d0 p0)
    (ok1 : Value.okWide Try.prog W .any base 22 v1) (h1 : DataW.Trod enc Try.prog W 0 (fun _ => true) true 22 v1 d1 p1)
    (ok2 : Value.okWide Try.prog W .any base 3 v2) (h2 : DataW.Trod enc Try.prog W 0 (fun _ => true) true 3 v2 d2 p2) :
    Calls Try.prog 7 #[v0, v1, v2] W fun e w' => e = .returned (.bool true) ∧ Below W.heap.size W w' := by
  obtain ⟨ds, hd⟩ := open_dos ok0 h0
  obtain ⟨ds2, hd2⟩ := open_dos ok1 h1
  obtain ⟨k, rfl, -⟩ := open_intR Try.underlying3 ok2 h2
  exact gone_walk W v0 ds hd v1 ds2 hd2 k
end Go.Proofs.Ytcdeknbbeghljaa
