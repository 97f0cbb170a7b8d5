/- kvstore, plain: stretches in pieces (KvstorePieces), what a commit writes (KvstoreWrites). No program. -/
import Derived.Test.YtdbhccehbjhbpaaGreatDoorK1
namespace Go.Proofs.YtdbhccehbjhbpaaGreatDoor
open Disk (Dk Dict leB get_put get_del)
open Slog (Lg numB)
namespace Kv

theorem pick_nil (d : Items) (f : Bytes → It → Bool) : pick d f [] = [] := rfl
theorem pick_cons (d : Items) (f : Bytes → It → Bool) (k : Bytes) (ks : List Bytes) :
    pick d f (k :: ks) = (match Dict.get d k with
      | none => []
      | some x => if f k x = true then [(k, x)] else []) ++ pick d f ks := by
  unfold pick
  rw [List.filterMap_cons]
  cases Dict.get d k with
  | none => rfl
  | some x =>
    by_cases h : f k x = true
    · simp [h]
    · simp [h]
theorem pick_append (d : Items) (f : Bytes → It → Bool) (a b : List Bytes) : pick d f (a ++ b) = pick d f a ++ pick d f b := by
  unfold pick; rw [List.filterMap_append]
theorem pick_none {d : Items} {f : Bytes → It → Bool} {ks : List Bytes} (h : ∀ k ∈ ks, ∀ x, f k x = false) : pick d f ks = [] := by
  induction ks with
  | nil => rfl
  | cons k ks ih =>
    rw [pick_cons, ih fun j hj => h j (List.mem_cons_of_mem _ hj)]
    cases Dict.get d k with
    | none => rfl
    | some x => simp [h k List.mem_cons_self x]
theorem pick_congr {d : Items} {f g : Bytes → It → Bool} {ks : List Bytes} (h : ∀ k ∈ ks, ∀ x, f k x = g k x) : pick d f ks = pick d g ks := by
  induction ks with
  | nil => rfl
  | cons k ks ih =>
    rw [pick_cons, pick_cons, ih fun j hj => h j (List.mem_cons_of_mem _ hj)]
    cases Dict.get d k with
    | none => rfl
    | some x => simp [h k List.mem_cons_self x]
/-- rising keys are split at a key. -/
theorem pick_split {d : Items} {f g h : Bytes → It → Bool} (b : Bytes) {ks : List Bytes} (hs : ks.Pairwise (· ≤ ·))
    (hlo : ∀ k x, k < b → f k x = h k x ∧ g k x = false) (hhi : ∀ k x, ¬ k < b → f k x = false ∧ g k x = h k x) : pick d f ks ++ pick d g ks = pick d h ks := by
  induction ks with
  | nil => rfl
  | cons k ks ih =>
    rw [List.pairwise_cons] at hs
    by_cases hk : k < b
    · rw [pick_cons d f, pick_cons d g, pick_cons d h, ← ih hs.2]
      cases Dict.get d k with
      | none => rfl
      | some x => simp [(hlo k x hk).1, (hlo k x hk).2]
    · have hall : ∀ j ∈ k :: ks, ¬ j < b := by
        intro j hj
        rcases List.mem_cons.1 hj with rfl | hj
        · exact hk
        · intro hlt
          exact hk (List.lt_of_le_of_lt (hs.1 j hj) hlt)
      rw [pick_none fun j hj x => (hhi j x (hall j hj)).1, List.nil_append]
      exact pick_congr fun j hj x => (hhi j x (hall j hj)).2
theorem keys_rise (d : Items) : ((d.map (·.1)).mergeSort leB).Pairwise (· ≤ ·) := by
  have := List.pairwise_mergeSort (le := leB) (fun a b c h1 h2 => by unfold leB at *; exact decide_eq_true (List.le_trans (of_decide_eq_true h1) (of_decide_eq_true h2)))
    (fun a b => by unfold leB; rcases List.le_total a b with h | h <;> simp [h]) (d.map (·.1))
  exact this.imp fun h => of_decide_eq_true h
theorem nil_le (k : Bytes) : ([] : Bytes) ≤ k := by
  intro h
  cases h
theorem inScan_iff {a b k : Bytes} {x : It} : inScan a b k x = true ↔ x.gone = false ∧ a ≤ k ∧ (b = [] ∨ k < b) := by
  unfold inScan; simp [and_assoc]
theorem inScan_eq {a b c e k : Bytes} {x : It} (h : (a ≤ k ∧ (b = [] ∨ k < b)) ↔ (c ≤ k ∧ (e = [] ∨ k < e))) : inScan a b k x = inScan c e k x := by
  rw [Bool.eq_iff_iff, inScan_iff, inScan_iff, h]
theorem inScan_not {a b k : Bytes} {x : It} (h : ¬ (a ≤ k ∧ (b = [] ∨ k < b))) : inScan a b k x = false := by
  rw [← Bool.not_eq_true, inScan_iff]
  exact fun e => h e.2
/-- KvstorePieces, plain. -/
theorem scan_pieces (d : Items) {a b c : Bytes} (h1 : a ≤ b) (h2 : b ≤ c) (hb : b ≠ []) (hc : c ≠ []) : scan d a b ++ scan d b c = scan d a c := by
  refine pick_split b (keys_rise d) (fun k x hk => ⟨inScan_eq ?_, inScan_not ?_⟩) (fun k x hk => ⟨inScan_not ?_, inScan_eq ?_⟩)
  · have : k < c := Classical.byContradiction fun e => h2 (List.lt_of_le_of_lt (show c ≤ k from e) hk)
    simp [hb, hc, hk, this]
  · rintro ⟨e, -⟩
    exact e hk
  · rintro ⟨-, e⟩
    rcases e with e | e
    · exact hb e
    · exact hk e
  · have hbk : b ≤ k := hk
    simp [hc, hbk, List.le_trans h1 hbk]
theorem scan_all (d : Items) {b : Bytes} (hb : b ≠ []) : scan d [] b ++ scan d b [] = scan d [] [] := by
  refine pick_split b (keys_rise d) (fun k x hk => ⟨inScan_eq ?_, inScan_not ?_⟩) (fun k x hk => ⟨inScan_not ?_, inScan_eq ?_⟩)
  · simp [hb, hk]
  · rintro ⟨e, -⟩
    exact e hk
  · rintro ⟨-, e⟩
    rcases e with e | e
    · exact hb e
    · exact hk e
  · have hbk : b ≤ k := hk
    simp [hbk]

/-- KvstoreWrites, plain. -/
theorem get_in {d : Items} {v : Nat} {ops : List KOp} (hn : (ops.map (·.key)).Nodup) {o : KOp} (ho : o ∈ ops) : get (putAll d v ops) o.key = if o.gone = true then none else some (o.it v) := by
  unfold get
  rw [putAll_in ops d hn o ho]
  rfl
theorem get_other {d : Items} {v : Nat} {ops : List KOp} {k : Bytes} (h : ∀ o ∈ ops, o.key ≠ k) : get (putAll d v ops) k = get d k := by
  unfold get
  rw [putAll_other ops d h]
/-- a commit that is refused changes nothing that is told. -/
theorem St.refused {s : St} (h : Good s) (hn : s.lg.next ≤ 246) {ops : List KOp} (he : (s.commit ops).2.2 ≠ 0) :
    (s.commit ops).2.1 = 0 ∧ (s.commit ops).1.version = s.version ∧ (s.commit ops).1.items = s.items ∧ (s.commit ops).1.lg.segs = s.lg.segs ∧ (s.commit ops).1.synced = s.synced := by
  unfold St.commit at he ⊢
  by_cases hc : check ops = 0
  · rw [if_pos hc] at he ⊢
    obtain ⟨g, a⟩ := h.log.append hn (enc (s.version + 1) ops)
    by_cases h2 : (Slog.append s.dk s.lg (enc (s.version + 1) ops)).2.2.2 = 0
    · simp only [if_pos h2] at he
      exact absurd rfl he
    · have e3 := (a.not h2).2.2.1
      simp only [if_neg h2]
      exact ⟨trivial, trivial, trivial, e3, trivial⟩
  · rw [if_neg hc] at he ⊢
    exact ⟨rfl, rfl, rfl, rfl, rfl⟩
/-- one that is done. -/
theorem St.done {s : St} {ops : List KOp} (he : (s.commit ops).2.2 = 0) :
    check ops = 0 ∧ (s.commit ops).2.1 = ((s.version + 1 : Nat) : Int) ∧ (s.commit ops).1.version = s.version + 1 ∧ (s.commit ops).1.items = putAll s.items (s.version + 1) ops := by
  unfold St.commit at he ⊢
  by_cases hc : check ops = 0
  · rw [if_pos hc] at he ⊢
    by_cases h2 : (Slog.append s.dk s.lg (enc (s.version + 1) ops)).2.2.2 = 0
    · simp only [if_pos h2]
      exact ⟨hc, trivial, trivial, trivial⟩
    · simp only [if_neg h2] at he
      exact absurd he h2
  · rw [if_neg hc] at he
    exact absurd he hc
end Kv
end Go.Proofs.YtdbhccehbjhbpaaGreatDoor
