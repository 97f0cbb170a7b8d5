/- disk: how many files and acts there can be. No program. -/
import Derived.Test.YtkednbkildkkmaaP3
namespace Go.Proofs.Ytkednbkildkkmaa.Disk

structure Dk.Small (N : Nat) (d : Dk) : Prop where
  seen : d.seen.length ≤ N
  rest : d.lasting.length + d.pending.length ≤ N
theorem del_len {α : Type} (f : Dict α) (n : Bytes) : (Dict.del f n).length ≤ f.length := List.length_filter_le _ _
theorem put_len {α : Type} (f : Dict α) (n : Bytes) (x : α) : (Dict.put f n x).length ≤ f.length + 1 := by
  unfold Dict.put
  rw [List.length_cons]
  have := del_len f n
  omega
theorem does_len (f : Files) (a : Deed) : (Files.does f a).length ≤ f.length + 1 := by
  unfold Files.does
  split
  · exact Nat.le_succ_of_le (del_len _ _)
  split
  · split
    · omega
    · exact put_len _ _ _
  · exact put_len _ _ _
theorem dones_len (l : List Deed) : ∀ f : Files, (l.foldl Files.does f).length ≤ f.length + l.length := by
  induction l with
  | nil => intro f; exact Nat.le_refl _
  | cons a l ih =>
    intro f
    have h1 := ih (Files.does f a)
    have h2 := does_len f a
    rw [List.foldl_cons, List.length_cons]
    omega
theorem keeps_len : ∀ (l : List Deed) (ks : List Bool), (keeps l ks).length ≤ l.length
  | [], ks => by cases ks <;> simp [keeps]
  | a :: l, [] => by simp [keeps]
  | a :: l, k :: ks => by
    have := keeps_len l ks
    simp only [keeps]
    split <;> simp <;> omega
theorem torn_len (l : List Deed) (tear : Int) : (torn l tear).length ≤ l.length := by
  unfold torn
  cases hl : l.getLast? with
  | none => simp
  | some a =>
    simp only
    split
    · obtain ⟨m, rfl⟩ := List.getLast?_eq_some_iff.1 hl
      simp
    · exact Nat.le_refl _
section
variable {d : Dk} {N : Nat}
theorem Dk.Small.act (h : d.Small N) (a : Deed) : (d.act a).Small (N + 1) := by
  have h1 := does_len d.seen a
  have h2 := h.seen
  have h3 := h.rest
  refine ⟨?_, ?_⟩
  · show (Files.does d.seen a).length ≤ _
    omega
  · show d.lasting.length + (d.pending ++ [a]).length ≤ _
    simp
    omega
theorem Dk.Small.more (h : d.Small N) {M : Nat} (hM : N ≤ M) : d.Small M := ⟨Nat.le_trans h.seen hM, Nat.le_trans h.rest hM⟩
theorem Dk.Small.settle (h : d.Small N) (q : Deed → Bool) : (d.settle q).Small N := by
  refine ⟨h.seen, ?_⟩
  have h1 := dones_len (d.pending.filter q) d.lasting
  have h2 : (d.pending.filter q).length + (d.pending.filter fun a => !q a).length = d.pending.length := by
    generalize d.pending = l
    induction l with
    | nil => rfl
    | cons a l ih =>
      rw [List.filter_cons, List.filter_cons]
      cases q a <;> simp <;> omega
  have h3 := h.rest
  show ((d.pending.filter q).foldl Files.does d.lasting).length + (d.pending.filter fun a => !q a).length ≤ N
  omega
theorem Dk.Small.rested (h : d.Small N) : d.rest.Small N := ⟨by have := h.rest; show d.lasting.length ≤ N; omega, h.rest⟩
theorem Dk.Small.write (h : d.Small N) (n b : Bytes) : (d.write n b).1.Small (N + 1) := by
  rcases write_cases d n b with ⟨e, -, he⟩ | he
  · rw [he]; exact h.more (by omega)
  · rw [he]; exact h.act _
theorem Dk.Small.cut (h : d.Small N) (n : Bytes) (i : Int) : (d.cut n i).1.Small (N + 1) := by
  rcases cut_cases d n i with ⟨e, -, he⟩ | ⟨a, -, -, he⟩
  · rw [he]; exact h.more (by omega)
  · rw [he]; exact h.act _
theorem Dk.Small.drop (h : d.Small N) (n : Bytes) : (d.drop n).1.Small (N + 1) := by
  rcases drop_cases d n with ⟨e, -, he⟩ | ⟨a, -, -, he⟩
  · rw [he]; exact h.more (by omega)
  · rw [he]; exact h.act _
theorem Dk.Small.sync (h : d.Small N) (n : Bytes) : (d.sync n).1.Small (N + 1) := by
  unfold Dk.sync
  split
  · exact ⟨Nat.le_succ_of_le (h.settle fun a => a.name == n).seen, Nat.le_succ_of_le (h.settle fun a => a.name == n).rest⟩
  · exact h.more (by omega)
theorem Dk.Small.flush (h : d.Small N) : d.flush.Small N := (h.settle _).rested
theorem Dk.Small.crash (h : d.Small N) (keep : List Bool) (tear : Int) : (d.crash keep tear).Small N := by
  refine Dk.Small.rested (d := { d with lasting := (torn (keeps d.pending keep) tear).foldl Files.does d.lasting, pending := [] }) ⟨h.seen, ?_⟩
  have h1 := dones_len (torn (keeps d.pending keep) tear) d.lasting
  have h2 := torn_len (keeps d.pending keep) tear
  have h3 := keeps_len d.pending keep
  have h4 := h.rest
  show ((torn (keeps d.pending keep) tear).foldl Files.does d.lasting).length + 0 ≤ N
  omega
theorem Dk.Small.call (h : d.Small N) (k : Do) : (d.call k).1.Small (N + 1) := by
  unfold Dk.call
  split
  · exact h.cut _ _
  split
  · exact h.drop _
  split
  · exact h.sync _
  split
  · exact h.flush.more (by omega)
  split
  · exact (h.crash _ _).more (by omega)
  · exact h.write _ _
end
theorem small_empty (n : Nat) : (Dk.empty n).Small 0 := ⟨by simp [Dk.empty], by simp [Dk.empty]⟩
theorem calls_small {d : Dk} {N : Nat} (h : d.Small N) : ∀ l : List Do, (d.calls l).Small (N + l.length) := by
  intro l
  induction l generalizing d N with
  | nil => exact h
  | cons k l ih =>
    have := ih (h.call k)
    rw [List.length_cons]
    exact this.more (by omega)
theorem list_of_alike {d e : Dk} (hd : d.Ok) (he : e.Ok) (h : Alike d e) (hs : ∀ {l m : List Bytes}, l.Perm m → l.mergeSort leB = m.mergeSort leB) : d.list = e.list := hs ((h.perm hd he).map _)
theorem list_mem {d : Dk} (hd : d.Ok) {n : Bytes} (h : n ∈ d.list) : ∃ x, Dict.get d.seen n = some x := by
  unfold Dk.list at h
  rw [List.mem_mergeSort] at h
  obtain ⟨q, hq, rfl⟩ := List.mem_map.1 h
  exact ⟨q.2, get_of_mem hd.seenOk hq⟩
theorem mem_list {d : Dk} {n x : Bytes} (h : Dict.get d.seen n = some x) : n ∈ d.list := by
  unfold Dk.list
  rw [List.mem_mergeSort]
  exact List.mem_map.2 ⟨(n, x), get_mem h, rfl⟩
theorem list_length (d : Dk) : d.list.length = d.seen.length := by unfold Dk.list; rw [List.length_mergeSort]; simp
end Go.Proofs.Ytkednbkildkkmaa.Disk
