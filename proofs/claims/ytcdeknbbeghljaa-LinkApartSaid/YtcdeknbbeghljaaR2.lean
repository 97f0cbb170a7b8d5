/- link: more of the plain model: what both nets do, call by call. No program. -/
import Derived.Test.YtcdeknbbeghljaaL2
namespace Go.Proofs.Ytcdeknbbeghljaa.Link

def Net.only (n : Net) (q : Int × Conn → Bool) : Net := { n with conns := n.conns.filter q }
def Net.drop (n : Net) (node : Int) : Net × Int := (n.only fun p => p.2.end_ node == -1, n.conns.length - (n.only fun p => p.2.end_ node == -1).conns.length)
/-- no connection is there that should be gone. -/
def Net.Live (n : Net) : Prop := ∀ p ∈ n.conns, rested p.2 = false

theorem only_ok {n : Net} (h : n.Ok) (q : Int × Conn → Bool) : (n.only q).Ok :=
  ⟨h.low, fun p hp => h.ids p (List.mem_filter.1 hp).1, h.apart.sublist ((List.filter_sublist).map _), fun p hp => h.fits p (List.mem_filter.1 hp).1, Nat.le_trans (List.length_filter_le _ _) h.few, fun p hp => h.unlike p (List.mem_filter.1 hp).1⟩
theorem only_live {n : Net} (h : n.Live) (q : Int × Conn → Bool) : (n.only q).Live := fun p hp => h p (List.mem_filter.1 hp).1
theorem live_empty : Net.empty.Live := fun p hp => by cases hp
theorem live_del {n : Net} (h : n.Live) (id : Int) : (n.del id).Live := fun p hp => h p (List.mem_filter.1 hp).1
theorem mem_put {n : Net} {id : Int} {c : Conn} {p : Int × Conn} (h : p ∈ (n.put id c).conns) : p = (id, c) ∨ p ∈ n.conns := by
  unfold Net.put at h
  obtain ⟨x, hx, rfl⟩ := List.mem_map.1 h
  split
  · exact .inl rfl
  · exact .inr hx
theorem live_put {n : Net} (h : n.Live) (id : Int) {c : Conn} (hc : rested c = false) : (n.put id c).Live := fun p hp => by
  rcases mem_put hp with rfl | hp
  · exact hc
  · exact h p hp
theorem live_rest {n : Net} (h : n.Live) (id : Int) (c : Conn) : (n.rest id c).Live := by
  unfold Net.rest
  split
  · exact live_del h id
  · rename_i hc
    exact live_put h id (by simpa using hc)
/-- what keep keeps. -/
theorem keep_rest {n : Net} (h : n.Live) (ha : (n.conns.map (·.1)).Nodup) {id : Int} {c c' : Conn} (hg : n.get id = some c) : (n.put id c').only (fun p => !rested p.2) = n.rest id c' := by
  obtain ⟨l1, l2, hs⟩ := split_of_get hg
  have hp := put_split (c' := c') hs ha
  have hd := del_split hs ha
  have f1 : l1.filter (fun p => !rested p.2) = l1 := List.filter_eq_self.2 fun p hp => by simp [h p (by rw [hs]; simp [hp])]
  have f2 : l2.filter (fun p => !rested p.2) = l2 := List.filter_eq_self.2 fun p hp => by simp [h p (by rw [hs]; simp [hp])]
  unfold Net.only
  rw [hp, List.filter_append, List.filter_cons, f1, f2]
  unfold Net.rest
  cases hr : rested c' with
  | true =>
    simp only [if_true]
    show ({ n.put id c' with conns := _ } : Net) = n.del id
    have : (n.del id) = { n with conns := l1 ++ l2 } := by rw [← hd]; rfl
    rw [this]
    simp [Net.put, hr]
  | false =>
    show ({ n.put id c' with conns := _ } : Net) = n.put id c'
    have : (n.put id c') = { n with conns := l1 ++ (id, c') :: l2 } := by rw [← hp]; rfl
    rw [this]
    simp [hr]
theorem conn_live {n : Net} (h : n.Live) {id : Int} {c : Conn} (hg : n.get id = some c) : rested c = false := by
  obtain ⟨l1, l2, hs⟩ := split_of_get hg
  exact h (id, c) (by rw [hs]; simp)
theorem end_cases (c : Conn) (node : Int) : c.end_ node = 0 ∨ c.end_ node = 1 ∨ c.end_ node = -1 := by
  unfold Conn.end_
  split
  · exact .inl rfl
  · split
    · exact .inr (.inl rfl)
    · exact .inr (.inr rfl)
theorem del_only (n : Net) (id : Int) : n.del id = n.only fun p => p.1 != id := rfl
end Go.Proofs.Ytcdeknbbeghljaa.Link
