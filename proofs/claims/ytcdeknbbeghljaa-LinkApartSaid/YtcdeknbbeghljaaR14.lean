/- link: what the walks of the laws over both nets share. -/
import Derived.Test.YtcdeknbbeghljaaR13
namespace Go.Proofs.Ytcdeknbbeghljaa
open Go.RowKit
open Link

theorem ref_new {w0 w : World} {B : List Res} (h : Held w0 w B) : Held w0 (w.alloc (.cells #[.slice none 0 0, .int .i64 0] 58)) (rRef 0 w.heap.size Net.empty :: B) := by
  have h1 := Held.pull1 ((h.block 58 #[.slice none 0 0, .int .i64 0]).own_nil 88)
  have h2 := Held.push2 (Held.big_nil (refLoc 0) h1)
  exact Held.rshut (n := Net.empty) (zs := []) (vl := .slice none 0 0) rfl h2
/-- both nets, as the same plain one; besides, what B says. -/
def BothAt (w0 : World) (B : List Res) (p q N j : Nat) (Q : Net → Prop) (w : World) : Prop := ∃ (n : Net) (M : Nat), n.Fine ∧ n.last ≤ (j : Int) ∧ M ≤ N ∧ Q n ∧ Held w0 w (rNet p n :: rRef M q n :: B)
theorem get_at {n : Net} (hok : n.Ok) {c : Int × Conn} (hc : c ∈ n.conns) : n.get c.1 = some c.2 := by
  obtain ⟨l1, l2, hs⟩ := List.append_of_mem hc
  exact get_split hs hok.apart
theorem not_ids {n : Net} (hf : n.Fine) {i : Int} (h : n.get i = none) : n.ids.contains i = false := by
  rw [hf.sorted]
  have := not_of_get h
  simp only [List.contains_eq_mem, List.mem_map, decide_eq_false_iff_not, not_exists, not_and]
  exact fun p hp => this p hp
end Go.Proofs.Ytcdeknbbeghljaa
