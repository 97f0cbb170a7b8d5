/- KvstorePieces: the walk over the arguments as they come in. -/
import Derived.Test.YtdbhccehbjhbpaaGreatDoorK20
namespace Go.Proofs.YtdbhccehbjhbpaaGreatDoor
open Go.ChangeShapes Go.WideShapes Go.ChangeAt Go.RowKit
set_option maxRecDepth 100000 in
theorem pieces_row {H : Type} {enc : TypeId × Value → H} (W : World) (base : Nat) (v0 v1 v2 v3 : Value) {d0 d1 d2 d3 : DataW H} {p0 p1 p2 p3 : List MemPlace}
    (ok0 : Value.okWide Tryz.prog W .any base 22 v0) (h0 : DataW.Trod enc Tryz.prog W 0 (fun _ => true) true 22 v0 d0 p0)
    (ok1 : Value.okWide Tryz.prog W .any base 9 v1) (h1 : DataW.Trod enc Tryz.prog W 0 (fun _ => true) true 9 v1 d1 p1)
    (ok2 : Value.okWide Tryz.prog W .any base 9 v2) (h2 : DataW.Trod enc Tryz.prog W 0 (fun _ => true) true 9 v2 d2 p2)
    (ok3 : Value.okWide Tryz.prog W .any base 9 v3) (h3 : DataW.Trod enc Tryz.prog W 0 (fun _ => true) true 9 v3 d3 p3) :
    Calls Tryz.prog 6 #[v0, v1, v2, v3] W fun e w' => e = .returned (.bool true) ∧ Below W.heap.size W w' := by
  obtain ⟨x0, hx0⟩ := open_dos ok0 h0
  obtain ⟨s1, rfl, -, -, -⟩ := Go.ChangeMaps.open_string Tryz.underlying9 ok1 h1
  rw [sv_of s1]
  obtain ⟨s2, rfl, -, -, -⟩ := Go.ChangeMaps.open_string Tryz.underlying9 ok2 h2
  rw [sv_of s2]
  obtain ⟨s3, rfl, -, -, -⟩ := Go.ChangeMaps.open_string Tryz.underlying9 ok3 h3
  rw [sv_of s3]
  exact pieces_walk W v0 x0 hx0 s1.data.toList s2.data.toList s3.data.toList
end Go.Proofs.YtdbhccehbjhbpaaGreatDoor
