/- LinkLives: the walk over the argument as it comes in. -/
import Derived.Test.YtcdeknbbeghljaaR16
namespace Go.Proofs.Ytcdeknbbeghljaa
open Go.ChangeShapes Go.WideShapes Go.ChangeAt Go.RowKit
set_option maxRecDepth 100000 in
theorem lives_row {H : Type} {enc : TypeId × Value → H} (W : World) (base : Nat) (v0 : Value) {d0 : DataW H} {p0 : List MemPlace}
    (ok0 : Value.okWide Try.prog W .any base 22 v0) (h0 : DataW.Trod enc Try.prog W 0 (fun _ => true) true 22 v0 d0 p0) :
    Calls Try.prog 8 #[v0] W fun e w' => e = .returned (.bool true) ∧ Below W.heap.size W w' := by
  obtain ⟨ds, hd⟩ := open_dos ok0 h0
  exact lives_walk W v0 ds hd
end Go.Proofs.Ytcdeknbbeghljaa
