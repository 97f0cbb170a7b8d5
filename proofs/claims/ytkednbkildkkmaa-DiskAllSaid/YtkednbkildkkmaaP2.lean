/- disk: calls, and what the laws say of them. No program. -/
import Derived.Test.YtkednbkildkkmaaP1
namespace Go.Proofs.Ytkednbkildkkmaa.Disk

structure Do where
  op : Int
  name : Bytes
  b : Bytes
  n : Int
  keep : List Bool
def Do.o8 (k : Do) : Int := k.op % 8
def Dk.call (d : Dk) (k : Do) : Dk × Int :=
  if k.o8 = 3 then d.cut k.name k.n else if k.o8 = 4 then d.drop k.name else if k.o8 = 5 then d.sync k.name
  else if k.o8 = 6 then (d.flush, 0) else if k.o8 = 7 then (d.crash k.keep k.n, 0) else d.write k.name k.b
def Dk.calls (d : Dk) (l : List Do) : Dk := l.foldl (fun d k => (d.call k).1) d

section
variable {d e : Dk}
theorem Dk.Ok.call (h : d.Ok) (k : Do) : (d.call k).1.Ok := by
  unfold Dk.call
  split
  · exact h.cut _ _
  split
  · exact h.drop _
  split
  · exact h.sync _
  split
  · exact h.flush
  split
  · exact h.crash _ _
  · exact h.write _ _
theorem write_room (d : Dk) (n b : Bytes) : (d.write n b).1.room = d.room := by
  have : ∀ i, (d.writeAt n i b).1.room = d.room := by intro i; unfold Dk.writeAt; split <;> rfl
  unfold Dk.write
  split
  · rfl
  split
  · split
    · rfl
    · exact this _
  · exact this _
theorem cut_room (d : Dk) (n : Bytes) (i : Int) : (d.cut n i).1.room = d.room := by
  unfold Dk.cut
  split
  · rfl
  split
  · rfl
  split <;> rfl
theorem drop_room (d : Dk) (n : Bytes) : (d.drop n).1.room = d.room := by
  unfold Dk.drop
  split
  · rfl
  split <;> rfl
theorem sync_room (d : Dk) (n : Bytes) : (d.sync n).1.room = d.room := by
  unfold Dk.sync
  split <;> rfl
theorem call_room (d : Dk) (k : Do) : (d.call k).1.room = d.room := by
  unfold Dk.call
  split
  · exact cut_room _ _ _
  split
  · exact drop_room _ _
  split
  · exact sync_room _ _
  split
  · rfl
  split
  · rfl
  · exact write_room _ _ _
theorem write_pend (d : Dk) (n b : Bytes) : (d.write n b).1.pending.length ≤ d.pending.length + 1 := by
  have : ∀ i, (d.writeAt n i b).1.pending.length ≤ d.pending.length + 1 := by
    intro i
    unfold Dk.writeAt
    split
    · simp
    · simp [Dk.act]
  unfold Dk.write
  split
  · simp
  split
  · split
    · simp
    · exact this _
  · exact this _
theorem cut_pend (d : Dk) (n : Bytes) (i : Int) : (d.cut n i).1.pending.length ≤ d.pending.length + 1 := by
  unfold Dk.cut
  split
  · simp
  split
  · simp
  split
  · simp
  · simp [Dk.act]
theorem drop_pend (d : Dk) (n : Bytes) : (d.drop n).1.pending.length ≤ d.pending.length + 1 := by
  unfold Dk.drop
  split
  · simp
  split
  · simp
  · simp [Dk.act]
theorem sync_pend (d : Dk) (n : Bytes) : (d.sync n).1.pending.length ≤ d.pending.length + 1 := by
  unfold Dk.sync
  split
  · exact Nat.le_succ_of_le (List.length_filter_le _ _)
  · simp
theorem flush_pend (d : Dk) : d.flush.pending = [] := by
  show (d.pending.filter fun _ => !true) = []
  simp
theorem call_pend (d : Dk) (k : Do) : (d.call k).1.pending.length ≤ d.pending.length + 1 := by
  unfold Dk.call
  split
  · exact cut_pend _ _ _
  split
  · exact drop_pend _ _
  split
  · exact sync_pend _ _
  split
  · show d.flush.pending.length ≤ _
    rw [flush_pend]
    simp
  split
  · show ([] : List Deed).length ≤ _
    simp
  · exact write_pend _ _ _

/-- what is refused changes nothing. -/
theorem call_err (d : Dk) (k : Do) (h : (d.call k).2 ≠ 0) : (d.call k).1 = d := by
  unfold Dk.call at h ⊢
  split
  · rename_i h3
    rw [if_pos h3] at h
    revert h
    unfold Dk.cut
    split
    · intro _; rfl
    split
    · intro _; rfl
    split
    · intro _; rfl
    · intro h; exact absurd rfl h
  · rename_i h3
    rw [if_neg h3] at h
    split
    · rename_i h4
      rw [if_pos h4] at h
      revert h
      unfold Dk.drop
      split
      · intro _; rfl
      split
      · intro _; rfl
      · intro h; exact absurd rfl h
    · rename_i h4
      rw [if_neg h4] at h
      split
      · rename_i h5
        rw [if_pos h5] at h
        revert h
        unfold Dk.sync
        split
        · intro h; exact absurd rfl h
        · intro _; rfl
      · rename_i h5
        rw [if_neg h5] at h
        split
        · rename_i h6
          rw [if_pos h6] at h
          exact absurd rfl h
        · rename_i h6
          rw [if_neg h6] at h
          split
          · rename_i h7
            rw [if_pos h7] at h
            exact absurd rfl h
          · rename_i h7
            rw [if_neg h7] at h
            revert h
            have go : ∀ i, (d.writeAt k.name i k.b).2 ≠ 0 → (d.writeAt k.name i k.b).1 = d := by
              intro i
              unfold Dk.writeAt
              split
              · intro _; rfl
              · intro h; exact absurd rfl h
            unfold Dk.write
            split
            · intro _; rfl
            split
            · split
              · intro _; rfl
              · exact go _
            · exact go _

/-! ### two disks that are seen alike -/
def Alike (d e : Dk) : Prop := ∀ n, Dict.get d.seen n = Dict.get e.seen n
theorem perm_of_get {α : Type} {f : Dict α} : ∀ {g : Dict α}, Dict.Ok f → Dict.Ok g → (∀ n, Dict.get f n = Dict.get g n) → f.Perm g := by
  induction f with
  | nil =>
    intro g _ _ h
    cases g with
    | nil => exact List.Perm.refl _
    | cons p g =>
      have := h p.1
      rw [get_cons, if_pos rfl] at this
      cases this
  | cons p f ih =>
    intro g hf hg h
    obtain ⟨hf', hp⟩ := hf.tail
    have h1 := h p.1
    rw [get_cons, if_pos rfl] at h1
    obtain ⟨g1, g2, rfl⟩ := List.append_of_mem (get_mem h1.symm)
    have hd := del_split (.refl _) hg
    have hdel : ∀ n, Dict.get f n = Dict.get (g1 ++ g2) n := by
      intro n
      rw [get_perm (hg.del p.1 |>.perm hd.symm) hd, get_del]
      split
      · rename_i e
        rw [e]
        exact get_notin hp
      · rename_i e
        rw [← h n, get_cons, if_neg (fun h => e h.symm)]
    exact ((ih hf' (hg.del p.1 |>.perm hd.symm) hdel).cons p).trans List.perm_middle.symm
theorem Alike.perm (h : Alike d e) (hd : d.Ok) (he : e.Ok) : d.seen.Perm e.seen := perm_of_get hd.seenOk he.seenOk h
theorem Alike.refl (d : Dk) : Alike d d := fun _ => rfl
theorem Alike.trans {f : Dk} (h : Alike d e) (g : Alike e f) : Alike d f := fun n => (h n).trans (g n)
theorem Alike.symm (h : Alike d e) : Alike e d := fun n => (h n).symm
theorem Dk.Ok.flush_alike (h : d.Ok) : Alike d d.flush := fun n => (h.get_flushed n).symm
theorem keeps_nil (ks : List Bool) : keeps [] ks = [] := by cases ks <;> rfl
/-- a crash where nothing is pending. -/
theorem Dk.Ok.crash_alike (h : d.Ok) (hp : d.pending = []) (keep : List Bool) (tear : Int) : Alike d (d.crash keep tear) := by
  intro n
  show Dict.get d.seen n = Dict.get ((torn (keeps d.pending keep) tear).foldl Files.does d.lasting) n
  rw [hp, keeps_nil, h.same, hp, effs_nil]
  rfl
theorem keeps_all (l : List Deed) : keeps l (List.replicate l.length true) = l := by
  induction l with
  | nil => rfl
  | cons a l ih =>
    rw [List.length_cons, List.replicate_succ]
    simp only [keeps, if_true]
    rw [ih]
theorem torn_none (l : List Deed) {tear : Int} (h : tear ≤ 0) : torn l tear = l := by
  unfold torn
  cases hl : l.getLast? with
  | none =>
    rw [List.getLast?_eq_none_iff] at hl
    rw [hl]
  | some a =>
    simp only
    split
    · have h0 : (min (max tear 0).toNat a.b.length) = 0 := by omega
      rw [h0, Nat.sub_zero, List.take_length]
      have e : ({ a with b := a.b } : Deed) = a := rfl
      rw [e]
      obtain ⟨m, rfl⟩ := List.getLast?_eq_some_iff.1 hl
      simp
    · rfl
theorem Dk.Ok.crash_all (h : d.Ok) {tear : Int} (ht : tear ≤ 0) : Alike d (d.crash (List.replicate d.pending.length true) tear) := by
  intro n
  show Dict.get d.seen n = Dict.get ((torn (keeps d.pending (List.replicate d.pending.length true)) tear).foldl Files.does d.lasting) n
  rw [keeps_all, torn_none _ ht, get_dones, h.same]
theorem keeps_none (l : List Deed) : keeps l [] = [] := by cases l <;> rfl
/-- a crash that keeps nothing. -/
theorem crash_none (d : Dk) (tear : Int) : (d.crash [] tear).seen = d.lasting := by
  show (torn (keeps d.pending []) tear).foldl Files.does d.lasting = d.lasting
  rw [keeps_none]
  rfl
theorem crash_pend (d : Dk) (keep : List Bool) (tear : Int) : (d.crash keep tear).pending = [] := rfl

/-! ### reads -/
theorem Dk.Ok.read_of (h : d.Ok) (n : Bytes) : d.read n = (match Dict.get d.seen n with | some x => (x, 0) | none => ([], if may n = false then 6 else 20)) := by
  unfold Dk.read
  cases hg : Dict.get d.seen n with
  | none => simp only; split <;> rfl
  | some x => simp [(h.seenLe n x hg).1]
theorem read_alike (hd : d.Ok) (he : e.Ok) {n : Bytes} (h : Dict.get d.seen n = Dict.get e.seen n) : d.read n = e.read n := by
  rw [hd.read_of, he.read_of, h]

/-! ### an act leaves the others alone -/
theorem act_other (d : Dk) (a : Deed) {n : Bytes} (h : n ≠ a.name) : Dict.get (d.act a).seen n = Dict.get d.seen n := by
  show Dict.get (Files.does d.seen a) n = _
  rw [get_does, if_neg h]
theorem write_cases (d : Dk) (n b : Bytes) : (∃ e, e ≠ 0 ∧ d.write n b = (d, e)) ∨ d.write n b = (d.act ⟨0, n, ((Dict.get d.seen n).getD []).length, b⟩, 0) := by
  have go : ∀ i, (∃ e, e ≠ 0 ∧ d.writeAt n i b = (d, e)) ∨ d.writeAt n i b = (d.act ⟨0, n, i, b⟩, 0) := by
    intro i
    unfold Dk.writeAt
    split
    · exact .inl ⟨7, by decide, rfl⟩
    · exact .inr rfl
  unfold Dk.write
  split
  · exact .inl ⟨6, by decide, rfl⟩
  cases hg : Dict.get d.seen n with
  | none =>
    simp only
    split
    · exact .inl ⟨7, by decide, rfl⟩
    · exact go 0
  | some x => exact go x.length
theorem cut_cases (d : Dk) (n : Bytes) (i : Int) : (∃ e, e ≠ 0 ∧ d.cut n i = (d, e)) ∨ ∃ a : Deed, a.kind = 1 ∧ a.name = n ∧ d.cut n i = (d.act a, 0) := by
  unfold Dk.cut
  split
  · exact .inl ⟨6, by decide, rfl⟩
  split
  · exact .inl ⟨20, by decide, rfl⟩
  split
  · exact .inl ⟨1, by decide, rfl⟩
  · exact .inr ⟨_, rfl, rfl, rfl⟩
theorem drop_cases (d : Dk) (n : Bytes) : (∃ e, e ≠ 0 ∧ d.drop n = (d, e)) ∨ ∃ a : Deed, a.kind = 2 ∧ a.name = n ∧ d.drop n = (d.act a, 0) := by
  unfold Dk.drop
  split
  · exact .inl ⟨6, by decide, rfl⟩
  split
  · exact .inl ⟨20, by decide, rfl⟩
  · exact .inr ⟨_, rfl, rfl, rfl⟩
theorem sync_seen (d : Dk) (n : Bytes) : (d.sync n).1.seen = d.seen := by
  unfold Dk.sync
  split <;> rfl
theorem call_apart (h : d.Ok) (k : Do) (h7 : k.o8 ≠ 7) {n : Bytes} (hn : n ≠ k.name) : Dict.get (d.call k).1.seen n = Dict.get d.seen n := by
  unfold Dk.call
  split
  · rcases cut_cases d k.name k.n with ⟨e, -, he⟩ | ⟨a, -, ha, he⟩
    · rw [he]
    · rw [he]; exact act_other d a (by rw [ha]; exact hn)
  split
  · rcases drop_cases d k.name with ⟨e, -, he⟩ | ⟨a, -, ha, he⟩
    · rw [he]
    · rw [he]; exact act_other d a (by rw [ha]; exact hn)
  split
  · rw [sync_seen]
  split
  · exact h.get_flushed n
  · rcases write_cases d k.name k.b with ⟨e, -, he⟩ | he
    · rw [he]
    · rw [he]; exact act_other d _ hn
/-- acts alone leave alone what lasts. -/
theorem call_lasting (d : Dk) (k : Do) (h5 : k.o8 < 5) : (d.call k).1.lasting = d.lasting := by
  unfold Dk.call
  split
  · rcases cut_cases d k.name k.n with ⟨e, -, he⟩ | ⟨a, -, ha, he⟩ <;> rw [he] <;> rfl
  split
  · rcases drop_cases d k.name with ⟨e, -, he⟩ | ⟨a, -, ha, he⟩ <;> rw [he] <;> rfl
  split
  · omega
  split
  · omega
  split
  · omega
  · rcases write_cases d k.name k.b with ⟨e, -, he⟩ | he <;> rw [he] <;> rfl
theorem look_ok {d : Dk} (h : d.Ok) {n : Bytes} : d.look n = 0 ↔ ∃ x, Dict.get d.seen n = some x := by
  unfold Dk.look
  cases hg : Dict.get d.seen n with
  | none => by_cases hm : may n = false <;> simp [hm]
  | some x => simp [(h.seenLe n x hg).1]
theorem sync_err (d : Dk) (n : Bytes) : (d.sync n).2 = d.look n := by
  unfold Dk.sync
  split
  · rename_i h
    exact h.symm
  · rfl
theorem sync_lasting (h : d.Ok) (n : Bytes) (hl : d.look n = 0) (m : Bytes) : Dict.get (d.sync n).1.lasting m = if m = n then Dict.get d.seen m else Dict.get d.lasting m := by
  unfold Dk.sync
  rw [if_pos hl]
  exact h.get_settled n m

/-! ### DiskNothing -/
/-- behind a flush, acts and maybe a sync: what a crash that keeps nothing leaves. -/
theorem nothing_left {d0 d : Dk} (h : d.Ok) (hl : ∀ m, Dict.get d.lasting m = Dict.get d0.seen m) (name m : Bytes) :
    Dict.get (((d.sync name).1).crash [] 0).seen m = if m = name ∧ (d.sync name).2 = 0 then Dict.get (d.sync name).1.seen m else Dict.get d0.seen m := by
  rw [crash_none, sync_err, sync_seen]
  by_cases h0 : d.look name = 0
  · rw [sync_lasting h name h0]
    by_cases e : m = name
    · simp [e, h0]
    · simp [e, hl]
  · have : (d.sync name).1 = d := by unfold Dk.sync; rw [if_neg h0]
    rw [this, if_neg (fun h => h0 h.2), hl]
theorem Dk.Ok.flush_lasting (h : d.Ok) (m : Bytes) : Dict.get d.flush.lasting m = Dict.get d.seen m := h.get_flushed m

/-! ### DiskRoom -/
theorem Dk.Ok.bytes_used (h : d.Ok) : bytesOf d.seen ≤ used d.held := bytesOf_le h.seenOk h.heldOk fun p hp => (h.seenLe p.1 p.2 (get_of_mem h.seenOk hp)).2
theorem full_why (h : d.Ok) (k : Do) (hf : (d.call k).2 = 7) (hu : used d.held + k.b.length ≤ d.room) : 4096 ≤ d.seen.length := by
  have look7 : ∀ n, d.look n ≠ 7 := by
    intro n
    unfold Dk.look
    split
    · decide
    · split <;> decide
  unfold Dk.call at hf
  split at hf
  · revert hf
    unfold Dk.cut
    split
    · intro h; cases h
    split
    · intro h; cases h
    split
    · intro h; cases h
    · intro h; cases h
  split at hf
  · revert hf
    unfold Dk.drop
    split
    · intro h; cases h
    split
    · intro h; cases h
    · intro h; cases h
  split at hf
  · rw [sync_err] at hf
    exact absurd hf (look7 _)
  split at hf
  · cases hf
  split at hf
  · cases hf
  · revert hf
    unfold Dk.write
    split
    · intro h; cases h
    split
    · split
      · intro _; assumption
      · unfold Dk.writeAt
        split
        · rename_i hb
          intro _
          exfalso
          omega
        · intro h; cases h
    · rename_i x hx
      have := (h.seenLe k.name x hx).2
      unfold hold at this
      unfold Dk.writeAt
      split
      · rename_i hb
        intro _
        exfalso
        omega
      · intro h; cases h

/-! ### DiskPieces -/
theorem overlay_end (x b : Bytes) : overlay x x.length b = x ++ b := by
  unfold overlay
  have e : x.length + b.length - x.length = b.length := by omega
  rw [e, List.take_left', List.drop_eq_nil_of_le]
  · simp
  · simp
  · rfl
theorem eff_append (n : Bytes) (o : Option Bytes) (b : Bytes) : eff ⟨0, n, (o.getD []).length, b⟩ o = some (o.getD [] ++ b) := by
  unfold eff
  rw [if_neg (by simp), if_neg (by simp), overlay_end]
/-- a write that goes in. -/
def Fits (d : Dk) (n : Bytes) (k : Nat) : Prop := may n = true ∧ (Dict.get d.seen n = none → d.seen.length < 4096) ∧ used d.held + ((Dict.get d.seen n).getD []).length + k ≤ d.room + hold d.held n
theorem write_iff (h : d.Ok) (n b : Bytes) : (d.write n b).2 = 0 ↔ Fits d n b.length := by
  have hf := h.fits
  unfold Fits Dk.write
  by_cases hm : may n = true
  · simp only [hm, true_and]
    simp only [Bool.true_eq_false, if_false]
    cases hg : Dict.get d.seen n with
    | none =>
      simp only [true_implies, Option.getD_none, List.length_nil]
      by_cases h4 : 4096 ≤ d.seen.length
      · rw [if_pos h4]
        constructor
        · intro h; cases h
        · intro h; omega
      · rw [if_neg h4]
        unfold Dk.writeAt hold
        split
        · rename_i hb
          constructor
          · intro h; cases h
          · intro h; exfalso; omega
        · rename_i hb
          exact ⟨fun _ => ⟨by omega, by omega⟩, fun _ => rfl⟩
    | some x =>
      simp only [reduceCtorEq, false_implies, true_and, Option.getD_some]
      unfold Dk.writeAt hold
      split
      · rename_i hb
        constructor
        · intro h; cases h
        · intro h; exfalso; omega
      · rename_i hb
        exact ⟨fun _ => by omega, fun _ => rfl⟩
  · have hm' : may n = false := by simpa using hm
    simp [hm']
theorem write_did (h : d.Ok) (n b : Bytes) (hw : (d.write n b).2 = 0) : d.write n b = (d.act ⟨0, n, ((Dict.get d.seen n).getD []).length, b⟩, 0) := by
  rcases write_cases d n b with ⟨e, he, h1⟩ | h1
  · rw [h1] at hw
    exact absurd hw he
  · exact h1
theorem act_write_seen (d : Dk) (n b m : Bytes) : Dict.get (d.act ⟨0, n, ((Dict.get d.seen n).getD []).length, b⟩).seen m = if m = n then some ((Dict.get d.seen n).getD [] ++ b) else Dict.get d.seen m := by
  show Dict.get (Files.does d.seen ⟨0, n, ((Dict.get d.seen n).getD []).length, b⟩) m = _
  rw [get_does]
  simp only
  split
  · rename_i e
    subst e
    exact eff_append m _ b
  · rfl
theorem act_write_held (d : Dk) (n b : Bytes) : (d.act ⟨0, n, ((Dict.get d.seen n).getD []).length, b⟩).held = Dict.put d.held n (max (hold d.held n) (((Dict.get d.seen n).getD []).length + b.length)) := by
  have h1 := act_write_seen d n b n
  rw [if_pos rfl] at h1
  have h2 : Dict.get (Files.does d.seen ⟨0, n, ((Dict.get d.seen n).getD []).length, b⟩) n = some ((Dict.get d.seen n).getD [] ++ b) := h1
  unfold Dk.act
  simp only
  rw [h2]
  simp [hold]
theorem put_length {α : Type} {f : Dict α} (hf : Dict.Ok f) (n : Bytes) (x : α) : (Dict.put f n x).length = if Dict.get f n = none then f.length + 1 else f.length := by
  cases hg : Dict.get f n with
  | none => rw [put_new hg]; simp
  | some y =>
    obtain ⟨l1, l2, hs⟩ := List.append_of_mem (get_mem hg)
    have h1 := (put_split (.of_eq hs.symm) hf x).length_eq
    rw [← h1, hs]
    simp
theorem pieces (h : d.Ok) (n a b : Bytes) :
    (((d.write n (a ++ b)).2 = 0) ↔ ((d.write n a).2 = 0 ∧ ((d.write n a).1.write n b).2 = 0)) ∧
    ((d.write n (a ++ b)).2 = 0 → Alike (d.write n (a ++ b)).1 ((d.write n a).1.write n b).1 ∧ used (d.write n (a ++ b)).1.held = used ((d.write n a).1.write n b).1.held) := by
  have hf := h.fits
  have h1 := h.write n a
  by_cases ha : (d.write n a).2 = 0
  · have e1 := write_did h n a ha
    have hs := act_write_seen d n a
    have hh := act_write_held d n a
    have fa := (write_iff h n a).1 ha
    have hsn := hs n
    rw [if_pos rfl] at hsn
    have hput := used_put h.heldOk n (max (hold d.held n) (((Dict.get d.seen n).getD []).length + a.length))
    rw [e1] at h1 ⊢
    simp only at h1 ⊢
    have hle := hold_le h.heldOk n
    have f2 : Fits (d.act ⟨0, n, ((Dict.get d.seen n).getD []).length, a⟩) n b.length ↔ Fits d n (a ++ b).length := by
      unfold Fits
      rw [hsn, hh, hold_put, if_pos rfl]
      simp only [Option.getD_some, List.length_append, reduceCtorEq, false_implies, true_and]
      show may n = true ∧ _ ≤ d.room + _ ↔ _
      obtain ⟨f1, f2, f3⟩ := fa
      constructor
      · rintro ⟨g1, g2⟩
        refine ⟨g1, f2, ?_⟩
        omega
      · rintro ⟨g1, g2, g3⟩
        refine ⟨g1, ?_⟩
        omega
    have w2 := write_iff h1 n b
    have w3 := write_iff h n (a ++ b)
    refine ⟨by rw [w2, w3, f2]; simp, fun hab => ?_⟩
    have e3 := write_did h n (a ++ b) hab
    have hb : ((d.act ⟨0, n, ((Dict.get d.seen n).getD []).length, a⟩).write n b).2 = 0 := by rw [w2, f2, ← w3]; exact hab
    have e2 := write_did h1 n b hb
    rw [e2, e3]
    have hs3 := act_write_seen d n (a ++ b)
    have hs2 := act_write_seen (d.act ⟨0, n, ((Dict.get d.seen n).getD []).length, a⟩) n b
    have hh3 := act_write_held d n (a ++ b)
    have hh2 := act_write_held (d.act ⟨0, n, ((Dict.get d.seen n).getD []).length, a⟩) n b
    refine ⟨fun m => ?_, ?_⟩
    · simp only
      rw [hs3, hs2, hsn]
      split
      · simp
      · rename_i hm
        rw [hs m, if_neg hm]
    · simp only
      rw [hh3, hh2, hsn, hh]
      have u1 := used_put h.heldOk n (max (hold d.held n) (((Dict.get d.seen n).getD []).length + (a ++ b).length))
      have u2 := used_put (h.heldOk.put n (max (hold d.held n) (((Dict.get d.seen n).getD []).length + a.length))) n (max (hold (Dict.put d.held n (max (hold d.held n) (((Dict.get d.seen n).getD []).length + a.length))) n) ((((Dict.get d.seen n).getD []) ++ a).length + b.length))
      rw [hold_put, if_pos rfl] at u2 ⊢
      simp only [List.length_append, Option.getD_some] at u1 u2 ⊢
      omega
  · have hne : ¬ Fits d n (a ++ b).length := by
      intro hF
      refine ha ((write_iff h n a).2 ⟨hF.1, hF.2.1, ?_⟩)
      have := hF.2.2
      simp only [List.length_append] at this
      omega
    have hne' : ¬ (d.write n (a ++ b)).2 = 0 := fun h0 => hne ((write_iff h n (a ++ b)).1 h0)
    exact ⟨⟨fun h0 => absurd h0 hne', fun h0 => absurd h0.1 ha⟩, fun h0 => absurd h0 hne'⟩
end
end Go.Proofs.Ytkednbkildkkmaa.Disk
