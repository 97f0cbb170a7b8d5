/- link: a call of the laws' script, over the plain model. No program. -/
import Derived.Test.YtcdeknbbeghljaaR6
import Derived.Test.YtcdeknbbeghljaaL11
namespace Go.Proofs.Ytcdeknbbeghljaa
open Link
namespace Link
def Net.call (n : Net) (k : Do) : Net :=
  if k.op % 8 = 0 then (n.dial k.a k.b).1
  else if k.op % 8 = 3 ∨ k.op % 8 = 4 then (n.carry k.id k.a k.b).1
  else if k.op % 8 = 5 then (n.close k.id k.a).1
  else if k.op % 8 = 6 then (n.cut k.id).1
  else if k.op % 8 = 7 then (n.drop k.a).1
  else (n.send k.id k.a k.bytes).1
section
variable {n : Net}
theorem Net.Fine.call (h : n.Fine) (k : Do) : (n.call k).Fine := by
  unfold Net.call
  split
  · exact h.dial _ _
  · split
    · exact h.carry _ _ _
    · split
      · exact h.close _ _
      · split
        · exact h.cut _
        · split
          · exact h.drop _
          · exact h.send _ _ _
theorem call_last (n : Net) (k : Do) : n.last ≤ (n.call k).last ∧ (n.call k).last ≤ n.last + 1 := by
  unfold Net.call
  split
  · exact dial_last _ _ _
  · split
    · rw [carry_last]; omega
    · split
      · rw [close_last]; omega
      · split
        · rw [cut_last]; omega
        · split
          · show n.last ≤ n.last ∧ n.last ≤ n.last + 1
            omega
          · rw [send_last]; omega
theorem gone_call (h : n.Ok) {i : Int} (hg : n.Gone i) (k : Do) : (n.call k).Gone i := by
  unfold Net.call
  split
  · exact gone_dial h hg _ _
  · split
    · exact gone_carry hg _ _ _
    · split
      · exact gone_close hg _ _
      · split
        · exact gone_cut hg _
        · split
          · exact gone_drop hg _
          · exact gone_send hg _ _ _
theorem call_other (h : n.Ok) (k : Do) (h7 : k.op % 8 ≠ 7) {i : Int} (hi : i ≤ n.last) (ho : k.op % 8 = 0 ∨ i ≠ k.id) : (n.call k).get i = n.get i := by
  unfold Net.call
  split
  · exact dial_get h _ _ _ hi
  · rename_i h0
    have hne : i ≠ k.id := by rcases ho with h | h; exact absurd h h0; exact h
    split
    · exact carry_other hne _ _
    · split
      · exact close_other hne _
      · split
        · exact cut_other hne
        · exact send_other hne _ _
theorem drop_gone (h : n.Fine) (node : Int) {p : Int × Conn} (hp : p ∈ n.conns) (he : p.2.end_ node ≠ -1) : (n.drop node).1.Gone p.1 := by
  refine ⟨(h.ok.ids p hp).2, ?_⟩
  unfold Net.get
  rw [Option.map_eq_none_iff, List.find?_eq_none]
  intro x hx
  obtain ⟨hx1, hx2⟩ := List.mem_filter.1 hx
  intro e
  have e' : x.1 = p.1 := by simpa using e
  have : x = p := inj_map h.ok.apart hx1 hp e'
  subst this
  exact he (by simpa using hx2)
theorem drop_count (n : Net) (node : Int) : (n.drop node).2 = ((n.conns.filter fun p => !(p.2.end_ node == -1)).length : Int) := by
  unfold Net.drop Net.only
  have := filter_both (fun p : Int × Conn => p.2.end_ node == -1) n.conns
  simp only
  omega
theorem ends_node {c : Conn} {node : Int} : (c.a = node ∨ c.b = node) ↔ c.end_ node ≠ -1 := by
  unfold Conn.end_
  split
  · rename_i h; simp [h]
  · rename_i h
    split
    · rename_i h2; simp [h2]
    · rename_i h2; simp [h, h2]
end
end Link
end Go.Proofs.Ytcdeknbbeghljaa
