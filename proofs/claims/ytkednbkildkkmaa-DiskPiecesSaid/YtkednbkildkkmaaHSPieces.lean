/- DiskPieces: the walk over the arguments as they come in. -/
import Derived.Test.YtkednbkildkkmaaHR
import Derived.Test.YtkednbkildkkmaaH5
import Derived.Test.YtkednbkildkkmaaH6
namespace Go.Proofs.Ytkednbkildkkmaa
open Go.ChangeShapes Go.WideShapes Go.ChangeAt Go.RowKit
open Disk
set_option maxRecDepth 100000 in
theorem pieces_row {H : Type} {enc : TypeId × Value → H} (W : World) (base : Nat) (v0 v1 v2 v3 v4 : Value) {ts : List TypeId} {ds : List (DataW H)} (hsz : (DataW.weightsEach Try.prog ts ds).all (· ≤ reachBytes) = true) {d0 d1 d2 d3 d4 : DataW H} {p0 p1 p2 p3 p4 : List MemPlace}
    (ok0 : Value.okWide Try.prog W .any base 3 v0) (h0 : DataW.Trod enc Try.prog W 0 (fun _ => true) true 3 v0 d0 p0)
    (ok1 : Value.okWide Try.prog W .any base 22 v1) (h1 : DataW.Trod enc Try.prog W 0 (fun _ => true) true 22 v1 d1 p1)
    (ok2 : Value.okWide Try.prog W .any base 9 v2) (h2 : DataW.Trod enc Try.prog W 0 (fun _ => true) true 9 v2 d2 p2)
    (ok3 : Value.okWide Try.prog W .any base 31 v3) (h3 : DataW.Trod enc Try.prog W 0 (fun _ => true) true 31 v3 d3 p3)
    (ok4 : Value.okWide Try.prog W .any base 31 v4) (h4 : DataW.Trod enc Try.prog W 0 (fun _ => true) true 31 v4 d4 p4) (t3 : ts[3]? = some 31) (e3 : ds[3]? = some d3) (t4 : ts[4]? = some 31) (e4 : ds[4]? = some d4) :
    Calls Try.prog 10 #[v0, v1, v2, v3, v4] W fun e w' => e = .returned (.bool true) ∧ Below W.heap.size W w' := by
  obtain ⟨x0, rfl, -⟩ := open_intR Try.underlying3 ok0 h0
  obtain ⟨x1, hx1⟩ := open_dos ok1 h1
  obtain ⟨x2, rfl, hx2⟩ := open_stringR ok2 h2
  obtain ⟨x3, hx3⟩ := open_bytesR Try.underlying31 Try.underlying5 (by kernel_rfl) ok3 h3
  obtain ⟨x4, hx4⟩ := open_bytesR Try.underlying31 Try.underlying5 (by kernel_rfl) ok4 h4
  exact pieces_walk W x0 v1 x1 hx1 x2 hx2 v3 x3 hx3 v4 x4 hx4 (reach_bytes Try.underlying31 (by kernel_rfl) (by kernel_rfl) h3 hx3 hsz t3 e3) (reach_bytes Try.underlying31 (by kernel_rfl) (by kernel_rfl) h4 hx4 hsz t4 e4)
end Go.Proofs.Ytkednbkildkkmaa
