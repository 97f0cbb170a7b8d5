/- SeglogNobody: the walk over the arguments as they come in; a slice of bytes is no longer than an argument may be. -/
import Derived.Test.YtbpgclhpbiohpaaGreatDoorU3
import Derived.Test.YtbpgclhpbiohpaaGreatDoorM1
import Derived.SizedLaws
namespace Go.Proofs.YtbpgclhpbiohpaaGreatDoor
open Go.ChangeShapes Go.WideShapes Go.ChangeAt Go.RowKit
theorem reach_bytes {H : Type} {enc : TypeId × Value → H} {P : Program} {W : World} {t e : TypeId} {v : Value} {d : DataW H} {p : List MemPlace} {l : List UInt8} (ht : P.underlying t = some (.slice e)) (hc : P.cellsOf e = 1) (hb : P.bytesOf e = 1)
    (h : DataW.Trod enc P W 0 (fun _ => true) true t v d p) {S : Nat → Prop} (hr : Rd S W v (bytesV l)) {ts : List TypeId} {ds : List (DataW H)} (hw : (DataW.weightsEach P ts ds).all (· ≤ reachBytes) = true) {j : Nat} (hj : ts[j]? = some t) (hd : ds[j]? = some d) : l.length ≤ 140737488355328 := by
  obtain ⟨fuel, hf⟩ := h
  obtain ⟨A, c, rfl, -⟩ := hr
  rw [bytesV_length] at hf
  rcases Go.Deep.open_slice1 ht hc hf with ⟨hcs, -⟩ | ⟨a, len, cap, m, n, V, D, Pl, hcs, -, hl, -, -, hx, -⟩
  · simp [Value.cells] at hcs
    simp [hcs]
  · simp [Value.cells] at hcs
    obtain ⟨rfl, h2, rfl⟩ := hcs
    injection hx with h3 _
    subst h3
    have := sized_slice hw hj hd ht
    rw [hb] at this
    simp only [List.length_map, List.length_range, Nat.mul_one] at this
    have h4 := reachBytes_lt
    omega

set_option maxRecDepth 100000 in
set_option maxHeartbeats 4000000 in
set_option maxRecDepth 100000 in
theorem nobody_row {H : Type} {enc : TypeId × Value → H} (W : World) (base : Nat) (v0 v1 : Value) {ts : List TypeId} {ds : List (DataW H)} (hsz : (DataW.weightsEach Tryz.prog ts ds).all (· ≤ reachBytes) = true) {d0 d1 : DataW H} {p0 p1 : List MemPlace}
    (ok0 : Value.okWide Tryz.prog W .any base 22 v0) (h0 : DataW.Trod enc Tryz.prog W 0 (fun _ => true) true 22 v0 d0 p0)
    (ok1 : Value.okWide Tryz.prog W .any base 3 v1) (h1 : DataW.Trod enc Tryz.prog W 0 (fun _ => true) true 3 v1 d1 p1) (t0 : ts[0]? = some 22) (e0 : ds[0]? = some d0) :
    Calls Tryz.prog 3 #[v0, v1] W fun e w' => e = .returned (.bool true) ∧ Below W.heap.size W w' := by
  obtain ⟨x0, hx0⟩ := open_bytesR Tryz.underlying22 Tryz.underlying5 (by kernel_rfl) ok0 h0
  obtain ⟨x1, rfl, -⟩ := open_intR Tryz.underlying3 ok1 h1
  exact nobody_walk W v0 x0 hx0 (reach_bytes Tryz.underlying22 (by kernel_rfl) (by kernel_rfl) h0 hx0 hsz t0 e0) x1
end Go.Proofs.YtbpgclhpbiohpaaGreatDoor
