/- The disk laws: each walk over its arguments as they come in. -/
import Derived.ChangeMaps5
import Derived.Test.YtkednbkildkkmaaH4
namespace Go.Proofs.Ytkednbkildkkmaa
open Go.ChangeShapes Go.WideShapes Go.ChangeAt Go.RowKit
open Disk

set_option maxRecDepth 100000 in
theorem open_stringR {H : Type} {enc : TypeId × Value → H} {W : World} {base : Nat} {v : Value} {d : DataW H} {p : List MemPlace} (ok : Value.okWide Try.prog W .any base 9 v)
    (h : DataW.Trod enc Try.prog W 0 (fun _ => true) true 9 v d p) : ∃ n : Bytes, v = sv n ∧ n.length ≤ 9223372036854775807 := by
  obtain ⟨s, rfl, _, _, hs⟩ := Go.ChangeMaps.open_string Try.underlying9 ok h
  refine ⟨s.data.toList, sv_of s, ?_⟩
  unfold maxLen at hs
  have : s.data.toList.length = s.size := Array.length_toList
  omega
set_option maxRecDepth 100000 in
theorem begins_row {H : Type} {enc : TypeId × Value → H} (W : World) (base : Nat) (v0 v1 v2 v3 v4 v5 : Value) {d0 d1 d2 d3 d4 d5 : DataW H} {p0 p1 p2 p3 p4 p5 : List MemPlace}
    (ok0 : Value.okWide Try.prog W .any base 3 v0) (h0 : DataW.Trod enc Try.prog W 0 (fun _ => true) true 3 v0 d0 p0)
    (ok1 : Value.okWide Try.prog W .any base 22 v1) (h1 : DataW.Trod enc Try.prog W 0 (fun _ => true) true 22 v1 d1 p1)
    (ok2 : Value.okWide Try.prog W .any base 9 v2) (h2 : DataW.Trod enc Try.prog W 0 (fun _ => true) true 9 v2 d2 p2)
    (ok3 : Value.okWide Try.prog W .any base 22 v3) (h3 : DataW.Trod enc Try.prog W 0 (fun _ => true) true 22 v3 d3 p3)
    (ok4 : Value.okWide Try.prog W .any base 23 v4) (h4 : DataW.Trod enc Try.prog W 0 (fun _ => true) true 23 v4 d4 p4)
    (ok5 : Value.okWide Try.prog W .any base 3 v5) (h5 : DataW.Trod enc Try.prog W 0 (fun _ => true) true 3 v5 d5 p5) :
    Calls Try.prog 3 #[v0, v1, v2, v3, v4, v5] W fun e w' => e = .returned (.bool true) ∧ Below W.heap.size W w' := by
  obtain ⟨x0, rfl, -⟩ := open_intR Try.underlying3 ok0 h0
  obtain ⟨x1, hx1⟩ := open_dos ok1 h1
  obtain ⟨x2, rfl, hx2⟩ := open_stringR ok2 h2
  obtain ⟨x3, hx3⟩ := open_dos ok3 h3
  obtain ⟨x4, hx4⟩ := open_boolsR Try.underlying23 Try.underlying4 (by kernel_rfl) ok4 h4
  obtain ⟨x5, rfl, -⟩ := open_intR Try.underlying3 ok5 h5
  exact begins_walk W x0 v1 x1 hx1 x2 hx2 v3 x3 hx3 v4 x4 hx4 x5
set_option maxRecDepth 100000 in
theorem nothing_row {H : Type} {enc : TypeId × Value → H} (W : World) (base : Nat) (v0 v1 v2 v3 : Value) {d0 d1 d2 d3 : DataW H} {p0 p1 p2 p3 : List MemPlace}
    (ok0 : Value.okWide Try.prog W .any base 3 v0) (h0 : DataW.Trod enc Try.prog W 0 (fun _ => true) true 3 v0 d0 p0)
    (ok1 : Value.okWide Try.prog W .any base 22 v1) (h1 : DataW.Trod enc Try.prog W 0 (fun _ => true) true 22 v1 d1 p1)
    (ok2 : Value.okWide Try.prog W .any base 22 v2) (h2 : DataW.Trod enc Try.prog W 0 (fun _ => true) true 22 v2 d2 p2)
    (ok3 : Value.okWide Try.prog W .any base 9 v3) (h3 : DataW.Trod enc Try.prog W 0 (fun _ => true) true 9 v3 d3 p3) :
    Calls Try.prog 4 #[v0, v1, v2, v3] W fun e w' => e = .returned (.bool true) ∧ Below W.heap.size W w' := by
  obtain ⟨x0, rfl, -⟩ := open_intR Try.underlying3 ok0 h0
  obtain ⟨x1, hx1⟩ := open_dos ok1 h1
  obtain ⟨x2, hx2⟩ := open_dos ok2 h2
  obtain ⟨x3, rfl, hx3⟩ := open_stringR ok3 h3
  exact nothing_walk W x0 v1 x1 hx1 v2 x2 hx2 x3 hx3
end Go.Proofs.Ytkednbkildkkmaa
