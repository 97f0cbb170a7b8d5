/- disk: laws of names and what they lead to. No program. -/
import Derived.Test.YtkednbkildkkmaaD1
namespace Go.Proofs.Ytkednbkildkkmaa
namespace Disk

section
variable {α : Type} {f g : Dict α} {n m : Bytes} {x y : α}
theorem get_nil : Dict.get ([] : Dict α) n = none := rfl
theorem get_mem (h : Dict.get f n = some x) : (n, x) ∈ f := by
  unfold Dict.get at h
  cases hf : f.find? (·.1 == n) with
  | none => rw [hf] at h; cases h
  | some p =>
    rw [hf] at h
    have h1 : p.1 = n := by have := List.find?_some hf; simpa using this
    have h2 : p.2 = x := by simpa using h
    have := List.mem_of_find?_eq_some hf
    rw [← h1, ← h2]; exact this
theorem get_none (h : Dict.get f n = none) : ∀ p ∈ f, p.1 ≠ n := by
  unfold Dict.get at h
  intro p hp e
  rw [Option.map_eq_none_iff, List.find?_eq_none] at h
  have := h p hp
  simp [e] at this
theorem get_none' (h : ∀ p ∈ f, p.1 ≠ n) : Dict.get f n = none := by
  unfold Dict.get
  rw [Option.map_eq_none_iff, List.find?_eq_none]
  intro p hp
  simpa using h p hp
theorem mem_uniq (hf : Dict.Ok f) {p q : Bytes × α} (hp : p ∈ f) (hq : q ∈ f) (h : p.1 = q.1) : p = q := by
  unfold Dict.Ok at hf
  induction f with
  | nil => cases hp
  | cons a l ih =>
    rw [List.map_cons, List.nodup_cons] at hf
    rcases List.mem_cons.1 hp with h1 | h1
    · rcases List.mem_cons.1 hq with h2 | h2
      · rw [h1, h2]
      · exact (hf.1 (List.mem_map.2 ⟨q, h2, by rw [← h, h1]⟩)).elim
    · rcases List.mem_cons.1 hq with h2 | h2
      · exact (hf.1 (List.mem_map.2 ⟨p, h1, by rw [h, h2]⟩)).elim
      · exact ih hf.2 h1 h2
theorem get_of_mem (hf : Dict.Ok f) (h : (n, x) ∈ f) : Dict.get f n = some x := by
  cases hg : Dict.get f n with
  | none => exact absurd rfl (get_none hg _ h)
  | some y => rw [(Prod.mk.inj (mem_uniq hf h (get_mem hg) rfl)).2]
theorem get_iff (hf : Dict.Ok f) : Dict.get f n = some x ↔ (n, x) ∈ f := ⟨get_mem, get_of_mem hf⟩
theorem Dict.Ok.perm (hf : Dict.Ok f) (h : f.Perm g) : Dict.Ok g := (h.map _).nodup_iff.1 hf
theorem get_perm (hf : Dict.Ok f) (h : f.Perm g) (n : Bytes) : Dict.get f n = Dict.get g n := by
  cases hg : Dict.get g n with
  | none => exact get_none' fun p hp => get_none hg p (h.mem_iff.1 hp)
  | some y => exact get_of_mem hf (h.mem_iff.2 (get_mem hg))
theorem Dict.Ok.del (hf : Dict.Ok f) (n : Bytes) : Dict.Ok (Dict.del f n) := hf.sublist ((List.filter_sublist).map _)
theorem mem_del {p : Bytes × α} : p ∈ Dict.del f n ↔ p ∈ f ∧ p.1 ≠ n := by unfold Dict.del; rw [List.mem_filter]; simp
theorem Dict.Ok.put (hf : Dict.Ok f) (n : Bytes) (x : α) : Dict.Ok (Dict.put f n x) := by
  unfold Dict.put Dict.Ok
  rw [List.map_cons, List.nodup_cons]
  refine ⟨fun h => ?_, hf.del n⟩
  obtain ⟨p, hp, e⟩ := List.mem_map.1 h
  exact (mem_del.1 hp).2 e
theorem get_del (n m : Bytes) : Dict.get (Dict.del f n) m = if m = n then none else Dict.get f m := by
  split
  · rename_i h
    subst h
    exact get_none' fun p hp => (mem_del.1 hp).2
  · rename_i h
    unfold Dict.get Dict.del
    rw [List.find?_filter]
    congr 2
    funext p
    by_cases hp : p.1 = m
    · simp [hp, h]
    · simp [hp]
theorem get_put (n m : Bytes) (x : α) : Dict.get (Dict.put f n x) m = if m = n then some x else Dict.get f m := by
  by_cases h : m = n
  · subst h
    simp [Dict.get, Dict.put]
  · have := get_del (f := f) n m
    rw [if_neg h] at this ⊢
    rw [← this]
    unfold Dict.get Dict.put
    rw [List.find?_cons]
    have h' : (n == m) = false := by simpa using (Ne.symm h)
    simp [h']
/-- what the rest is, where one is known. -/
theorem del_split {l1 l2 : Dict α} (h : (l1 ++ (n, x) :: l2).Perm f) (hf : Dict.Ok f) : (l1 ++ l2).Perm (Dict.del f n) := by
  have h1 := (h.filter (·.1 != n))
  refine List.Perm.trans (.of_eq ?_) h1
  have hok := hf.perm h.symm
  unfold Dict.Ok at hok
  rw [List.map_append, List.map_cons, List.nodup_append, List.nodup_cons] at hok
  obtain ⟨-, ⟨n2, -⟩, d⟩ := hok
  rw [List.filter_append, List.filter_cons]
  simp only [bne_self_eq_false, Bool.false_eq_true, if_false]
  congr 1
  · refine (List.filter_eq_self.2 fun p hp => ?_).symm
    have := d p.1 (List.mem_map.2 ⟨p, hp, rfl⟩) n (by simp)
    simpa using this
  · refine (List.filter_eq_self.2 fun p hp => ?_).symm
    simp only [bne_iff_ne, ne_eq]
    rintro e
    exact n2 (List.mem_map.2 ⟨p, hp, e⟩)
theorem put_split {l1 l2 : Dict α} (h : (l1 ++ (n, x) :: l2).Perm f) (hf : Dict.Ok f) (y : α) : (l1 ++ (n, y) :: l2).Perm (Dict.put f n y) :=
  List.perm_middle.trans ((del_split h hf).cons _)
theorem put_new (h : Dict.get f n = none) (y : α) : Dict.put f n y = (n, y) :: f := by
  unfold Dict.put
  congr 1
  unfold Dict.del
  exact List.filter_eq_self.2 fun p hp => by simpa using get_none h p hp
theorem del_none (h : Dict.get f n = none) : Dict.del f n = f := by
  unfold Dict.del
  exact List.filter_eq_self.2 fun p hp => by simpa using get_none h p hp
end
end Disk
end Go.Proofs.Ytkednbkildkkmaa
