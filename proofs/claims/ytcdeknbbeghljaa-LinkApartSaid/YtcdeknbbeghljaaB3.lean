/- Laws at the operations, for the walk: what a run of a map's operation comes to is handed over as a fact. Nothing of the program. -/
import Derived.Test.YtcdeknbbeghljaaB2
namespace Go.Proofs.Ytcdeknbbeghljaa
open Go.RowKit

section
variable {P : Program} (w : World) {ops : Array Oper} {rest : List Oper} {o : Oper} {a : Act} {Q : Exit → Act → World → Prop}

theorem wpList_delete_ex (hg : o.guard = none) (m x : Operand) (t k : TypeId) (hop : o.op = Op.call { callee := Callee.builtin Builtin.delete, args := #[m, x], argTypes := #[t, k] })
    (mv key : Value) (hm : a.eval m = mv) (hx : a.eval x = key) (Post : World → Prop) (H : ∃ w', (∀ ty, (Builtin.delete_ #[t, k] ty #[mv, key]).run P w = .ok (.tuple #[]) w') ∧ Post w')
    (hK : ∀ w', Post w' → wpList P ops Q rest (a.put o.dst (.tuple #[])) w') : wpList P ops Q (o :: rest) a w := by
  refine wpList_plain hg fun K' hK' => ?_
  obtain ⟨w', hrun, hp⟩ := H
  unfold Oper.wp execOp
  simp only [hop, resolve, invoke, builtin, Sem.run_bind, Sem.run_pure, Result.andThen_ok, List.map_toArray, List.map_cons, List.map_nil, hm, hx, hrun]
  exact hK' _ _ (hK w' hp)

theorem wpList_mapUpdate_ex (hg : o.guard = none) (m x v : Operand) (t : TypeId) (hop : o.op = Op.mapUpdate t m x v)
    (mv key val : Value) (hm : a.eval m = mv) (hx : a.eval x = key) (hv : a.eval v = val) (Post : World → Prop) (H : ∃ w', (Instr.mapUpdate t mv key val).run P w = .ok () w' ∧ Post w')
    (hK : ∀ w', Post w' → wpList P ops Q rest (a.put o.dst undef) w') : wpList P ops Q (o :: rest) a w := by
  refine wpList_plain hg fun K' hK' => ?_
  obtain ⟨w', hrun, hp⟩ := H
  unfold Oper.wp
  simp [execOp, hop, hm, hx, hv, hrun, Result.andThen]
  exact hK' _ _ (hK w' hp)

theorem wpList_lookup_ex (hg : o.guard = none) (m x : Operand) (t : TypeId) (ok : Bool) (hop : o.op = Op.lookup t m x ok)
    (mv key : Value) (hm : a.eval m = mv) (hx : a.eval x = key) (r : Value) (H : (Instr.lookup t mv key ok).run P w = .ok r w)
    (hK : wpList P ops Q rest (a.put o.dst r) w) : wpList P ops Q (o :: rest) a w := by
  refine wpList_plain hg fun K' hK' => ?_
  unfold Oper.wp
  simp [execOp, hop, hm, hx, H, Result.andThen]
  exact hK' _ _ hK

theorem wpList_range_ex (hg : o.guard = none) (m : Operand) (t : TypeId) (hop : o.op = Op.range t m) (mv : Value) (hm : a.eval m = mv) (v : Value) (Post : World → Prop)
    (H : ∃ w', (Instr.range t mv).run P w = .ok v w' ∧ Post w') (hK : ∀ w', Post w' → wpList P ops Q rest (a.put o.dst v) w') : wpList P ops Q (o :: rest) a w := by
  refine wpList_plain hg fun K' hK' => ?_
  obtain ⟨w', hrun, hp⟩ := H
  unfold Oper.wp
  simp [execOp, hop, hm, hrun, Result.andThen]
  exact hK' _ _ (hK w' hp)

theorem wpList_next_ex (hg : o.guard = none) (it : Operand) (hop : o.op = Op.next it false) (iv : Value) (hit : a.eval it = iv) (A : Prop) (B : Value → Value → World → Prop)
    (H : ∀ ty, (A ∧ (Instr.next iv false ty).run P w = .ok (.tuple #[.bool false]) w) ∨ ∃ k v w', (Instr.next iv false ty).run P w = .ok (.tuple #[.bool true, k, v]) w' ∧ B k v w')
    (h0 : A → wpList P ops Q rest (a.put o.dst (.tuple #[.bool false])) w) (h1 : ∀ k v w', B k v w' → wpList P ops Q rest (a.put o.dst (.tuple #[.bool true, k, v])) w') : wpList P ops Q (o :: rest) a w := by
  refine wpList_plain hg fun K' hK' => ?_
  unfold Oper.wp
  rcases H o.type with ⟨hA, hrun⟩ | ⟨k, v, w', hrun, hB⟩
  · simp [execOp, hop, hit, hrun, Result.andThen]
    exact hK' _ _ (h0 hA)
  · simp [execOp, hop, hit, hrun, Result.andThen]
    exact hK' _ _ (h1 k v w' hB)
end

/-- The block of a new block of cells is no old one's. -/
theorem heap_allocs (w : World) {b : Nat} {x : Obj} (o : Obj) (h : w.heap[b]? = some x) : (w.alloc o).heap[b]? = w.heap[b]? := Below.heap_alloc w o b (lt_of_heap h)

end Go.Proofs.Ytcdeknbbeghljaa
