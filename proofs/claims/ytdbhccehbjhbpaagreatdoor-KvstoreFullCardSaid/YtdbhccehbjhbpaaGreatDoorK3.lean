/- kvstore, plain: what was there, with what was written since put over it (KvstoreNews). No program. -/
import Derived.Test.YtdbhccehbjhbpaaGreatDoorK2
namespace Go.Proofs.YtdbhccehbjhbpaaGreatDoor
open Disk (Dk Dict leB get_put get_del get_mem get_of_mem get_none get_iff)
open Slog (Lg numB)
namespace Kv

theorem mem_keys {d : Items} {k : Bytes} : k ∈ (d.map (·.1)).mergeSort leB ↔ ∃ x, Dict.get d k = some x := by
  rw [List.mem_mergeSort, List.mem_map]
  constructor
  · rintro ⟨p, hp, rfl⟩
    cases hg : Dict.get d p.1 with
    | none => exact absurd rfl (get_none hg p hp)
    | some x => exact ⟨x, rfl⟩
  · rintro ⟨x, h⟩
    exact ⟨_, get_mem h, rfl⟩
theorem mem_pick {d : Items} {f : Bytes → It → Bool} {ks : List Bytes} {k : Bytes} {x : It} : (k, x) ∈ pick d f ks ↔ k ∈ ks ∧ Dict.get d k = some x ∧ f k x = true := by
  induction ks with
  | nil => simp [pick_nil]
  | cons j ks ih =>
    rw [pick_cons, List.mem_append, ih, List.mem_cons]
    cases hg : Dict.get d j with
    | none =>
      constructor
      · rintro (h | h)
        · cases h
        · exact ⟨.inr h.1, h.2⟩
      · rintro ⟨rfl | h, h2⟩
        · rw [hg] at h2
          cases h2.1
        · exact .inr ⟨h, h2⟩
    | some y =>
      simp only
      by_cases hf : f j y = true
      · rw [if_pos hf, List.mem_singleton]
        constructor
        · rintro (h | h)
          · cases h
            exact ⟨.inl rfl, hg, hf⟩
          · exact ⟨.inr h.1, h.2⟩
        · rintro ⟨rfl | h, h2⟩
          · rw [hg] at h2
            cases h2.1
            exact .inl rfl
          · exact .inr ⟨h, h2⟩
      · rw [if_neg hf]
        constructor
        · rintro (h | h)
          · cases h
          · exact ⟨.inr h.1, h.2⟩
        · rintro ⟨rfl | h, h2⟩
          · rw [hg] at h2
            cases h2.1
            exact absurd h2.2 hf
          · exact .inr ⟨h, h2⟩
theorem mem_rising {d : Items} {f : Bytes → It → Bool} {k : Bytes} {x : It} : (k, x) ∈ rising d f ↔ Dict.get d k = some x ∧ f k x = true := by
  unfold rising
  rw [mem_pick, mem_keys]
  exact ⟨fun h => h.2, fun h => ⟨⟨x, h.1⟩, h⟩⟩
theorem pick_keys (d : Items) (f : Bytes → It → Bool) (ks : List Bytes) : ((pick d f ks).map (·.1)).Sublist ks := by
  induction ks with
  | nil => exact List.Sublist.slnil
  | cons j ks ih =>
    rw [pick_cons, List.map_append]
    cases Dict.get d j with
    | none => exact ih.cons j
    | some y =>
      simp only
      by_cases hf : f j y = true
      · rw [if_pos hf]
        exact ih.cons_cons j
      · rw [if_neg hf]
        exact ih.cons j
theorem rising_nodup {d : Items} (h : Dict.Ok d) (f : Bytes → It → Bool) : ((rising d f).map (·.1)).Nodup := by
  refine (pick_keys d f _).nodup ?_
  exact (List.mergeSort_perm (d.map (·.1)) leB).nodup_iff.2 (show (d.map (·.1)).Nodup from h)
theorem lt_of_le_ne {a b : Bytes} (h : a ≤ b) (hn : a ≠ b) : a < b :=
  Classical.byContradiction fun e => hn (List.le_antisymm h e)
theorem rising_lt {d : Items} (h : Dict.Ok d) (f : Bytes → It → Bool) : ((rising d f).map (·.1)).Pairwise (· < ·) := by
  have h1 := (keys_rise d).sublist (pick_keys d f _)
  have h2 : ((rising d f).map (·.1)).Pairwise (· ≠ ·) := rising_nodup h f
  exact (h1.and h2).imp fun h => lt_of_le_ne h.1 h.2

/-- what changed behind a version has a later one. -/
def News (d e : Items) (v : Nat) : Prop := ∀ k, Dict.get e k = Dict.get d k ∨ ∃ x, Dict.get e k = some x ∧ v < x.at_
theorem News.refl (d : Items) (v : Nat) : News d d v := fun _ => .inl rfl
theorem News.putAll {d e : Items} {v u : Nat} (h : News d e v) (hu : v ≤ u) {ops : List KOp} (hn : (ops.map (·.key)).Nodup) : News d (putAll e (u + 1) ops) v := by
  intro k
  by_cases hk : ∃ o ∈ ops, o.key = k
  · obtain ⟨o, ho, rfl⟩ := hk
    exact .inr ⟨_, putAll_in ops e hn o ho, by show v < u + 1; omega⟩
  · rw [putAll_other ops e (fun o ho e => hk ⟨o, ho, e⟩)]
    exact h k
theorem News.commit {d : Items} {v : Nat} {s : St} (h : News d s.items v) (hu : v ≤ s.version) (hg : Good s) (hn : s.lg.next ≤ 246) (ops : List KOp) : News d (s.commit ops).1.items v ∧ v ≤ (s.commit ops).1.version := by
  by_cases he : (s.commit ops).2.2 = 0
  · obtain ⟨h1, -, h2, h3⟩ := St.done he
    rw [h2, h3]
    exact ⟨h.putAll hu (check_zero h1).2.2.once, by omega⟩
  · obtain ⟨-, h2, h3, -⟩ := St.refused hg hn he
    rw [h2, h3]
    exact ⟨h, hu⟩

/-- what is laid over what was there, one behind the other. -/
def over (there : Items) : List (Bytes × It) → Items
  | [] => there
  | p :: l => over (if p.2.gone = true then Dict.del (Dict.put there p.1 p.2) p.1 else Dict.put there p.1 p.2) l
theorem over_ok : ∀ (l : List (Bytes × It)) {t : Items}, Dict.Ok t → Dict.Ok (over t l) := by
  intro l
  induction l with
  | nil => intro t h; exact h
  | cons p l ih =>
    intro t h
    unfold over
    split
    · exact ih ((h.put _ _).del _)
    · exact ih (h.put _ _)
theorem over_other {k : Bytes} : ∀ (l : List (Bytes × It)) {t : Items}, k ∉ l.map (·.1) → Dict.get (over t l) k = Dict.get t k := by
  intro l
  induction l with
  | nil => intro t _; rfl
  | cons p l ih =>
    intro t h
    rw [List.map_cons, List.mem_cons, not_or] at h
    unfold over
    split
    · rw [ih h.2, get_del, if_neg h.1, get_put, if_neg h.1]
    · rw [ih h.2, get_put, if_neg h.1]
theorem over_in : ∀ (l : List (Bytes × It)) {t : Items}, (l.map (·.1)).Nodup → ∀ p ∈ l, Dict.get (over t l) p.1 = if p.2.gone = true then none else some p.2 := by
  intro l
  induction l with
  | nil => intro t _ p h; cases h
  | cons q l ih =>
    intro t h p hp
    rw [List.map_cons, List.nodup_cons] at h
    unfold over
    rcases List.mem_cons.1 hp with rfl | hp
    · split
      · rw [over_other l h.1, get_del, if_pos rfl]
      · rw [over_other l h.1, get_put, if_pos rfl]
    · split
      · exact ih h.2 p hp
      · exact ih h.2 p hp
/-- KvstoreNews, plain: each key has what it has now. -/
theorem news_get {d e : Items} {v : Nat} (he : Dict.Ok e) (h : News d e v) (k : Bytes) :
    Dict.get (over (scan d [] []) (since e v)) k = get e k := by
  by_cases hk : k ∈ (since e v).map (·.1)
  · obtain ⟨p, hp, rfl⟩ := List.mem_map.1 hk
    rw [over_in (since e v) (rising_nodup he _) p hp]
    have := (mem_rising.1 (show (p.1, p.2) ∈ rising e _ from hp)).1
    unfold get
    rw [this]
  · rw [over_other _ hk]
    have h1 : Dict.get e k = Dict.get d k := by
      rcases h k with h1 | ⟨x, h1, h2⟩
      · exact h1
      · exact absurd (List.mem_map.2 ⟨(k, x), mem_rising.2 ⟨h1, decide_eq_true (by omega)⟩, rfl⟩) hk
    unfold get
    rw [h1]
    cases hg : Dict.get (scan d [] []) k with
    | some x =>
      have h2 := mem_rising.1 (get_mem hg)
      rw [h2.1]
      have h3 := (inScan_iff.1 h2.2).1
      simp [h3]
    | none =>
      cases hd2 : Dict.get d k with
      | none => rfl
      | some x =>
        by_cases hx : x.gone = true
        · simp [hx]
        · exact absurd rfl (get_none hg (k, x) (mem_rising.2 ⟨hd2, inScan_iff.2 ⟨by simpa using hx, nil_le k, .inl rfl⟩⟩))
theorem scan_all_get (d : Items) (k : Bytes) : Dict.get (scan d [] []) k = get d k := by
  cases hg : Dict.get (scan d [] []) k with
  | some x =>
    have h2 := mem_rising.1 (get_mem hg)
    have h3 := (inScan_iff.1 h2.2).1
    unfold get
    rw [h2.1]
    simp [h3]
  | none =>
    unfold get
    cases hd2 : Dict.get d k with
    | none => rfl
    | some x =>
      by_cases hx : x.gone = true
      · simp [hx]
      · exact absurd rfl (get_none hg (k, x) (mem_rising.2 ⟨hd2, inScan_iff.2 ⟨by simpa using hx, nil_le k, .inl rfl⟩⟩))
theorem perm_of_get {a b : Items} (ha : Dict.Ok a) (hb : Dict.Ok b) (h : ∀ k, Dict.get a k = Dict.get b k) : a.Perm b := by
  have na : a.Nodup := List.Pairwise.imp (fun h e => h (congrArg Prod.fst e)) (List.pairwise_map.1 ha)
  have nb : b.Nodup := List.Pairwise.imp (fun h e => h (congrArg Prod.fst e)) (List.pairwise_map.1 hb)
  refine (List.perm_ext_iff_of_nodup na nb).2 fun p => ?_
  obtain ⟨k, x⟩ := p
  rw [← get_iff ha, ← get_iff hb, h]
/-- as many as there are now. -/
theorem news_length {d e : Items} {v : Nat} (hd : Dict.Ok d) (he : Dict.Ok e) (h : News d e v) :
    (over (scan d [] []) (since e v)).length = (scan e [] []).length := by
  refine (perm_of_get (over_ok _ (rising_nodup hd _)) (rising_nodup he _) fun k => ?_).length_eq
  exact (news_get he h k).trans (scan_all_get e k).symm
end Kv
end Go.Proofs.YtdbhccehbjhbpaaGreatDoor
