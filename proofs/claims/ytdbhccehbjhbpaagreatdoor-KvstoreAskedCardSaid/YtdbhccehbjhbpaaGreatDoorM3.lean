/- disk and seglog, plain: invariants, frames, what a crash leaves, opening, trimming, appending. (Several texts in one file, by merge.py.) -/
import Derived.Test.YtdbhccehbjhbpaaGreatDoorM2
import Derived.WalkKit
import Derived.Sort.KeysCollected

/- disk: what always holds of a disk. No program. -/
namespace Go.Proofs.YtdbhccehbjhbpaaGreatDoor.Disk

def hold (h : Dict Nat) (n : Bytes) : Nat := (Dict.get h n).getD 0

section
variable {h : Dict Nat} {n m : Bytes} {k : Nat}
theorem Dict.Ok.tail {α : Type} {p : Bytes × α} {f : Dict α} (h : Dict.Ok (p :: f)) : Dict.Ok f ∧ p.1 ∉ f.map (·.1) := by
  unfold Dict.Ok at h ⊢
  rw [List.map_cons, List.nodup_cons] at h
  exact ⟨h.2, h.1⟩
theorem get_cons {α : Type} (p : Bytes × α) (f : Dict α) (n : Bytes) : Dict.get (p :: f) n = if p.1 = n then some p.2 else Dict.get f n := by
  unfold Dict.get
  rw [List.find?_cons]
  by_cases e : p.1 = n
  · simp [e]
  · have e' : (p.1 == n) = false := by simpa using e
    rw [if_neg e, e']
theorem get_notin {α : Type} {f : Dict α} (h : n ∉ f.map (·.1)) : Dict.get f n = none := get_none' fun p hp e => h (List.mem_map.2 ⟨p, hp, e⟩)
theorem used_cons (p : Bytes × Nat) (h : Dict Nat) : used (p :: h) = p.2 + used h := by simp [used]
theorem hold_cons (p : Bytes × Nat) (h : Dict Nat) (n : Bytes) : hold (p :: h) n = if p.1 = n then p.2 else hold h n := by
  unfold hold
  rw [get_cons]
  split <;> rfl
theorem used_del (hok : Dict.Ok h) (n : Bytes) : used (Dict.del h n) + hold h n = used h := by
  induction h with
  | nil => rfl
  | cons p h ih =>
    obtain ⟨hok', hp⟩ := hok.tail
    rw [hold_cons]
    by_cases e : p.1 = n
    · have hd : Dict.del (p :: h) n = h := by
        have h1 : Dict.del h n = h := del_none (get_notin (by rw [← e]; exact hp))
        unfold Dict.del at h1 ⊢
        rw [List.filter_cons]
        simpa [e] using h1
      rw [hd, if_pos e, used_cons]
      omega
    · have hd : Dict.del (p :: h) n = p :: Dict.del h n := by
        unfold Dict.del
        rw [List.filter_cons]
        simp [e]
      rw [hd, if_neg e, used_cons, used_cons]
      have := ih hok'
      omega
theorem used_put (hok : Dict.Ok h) (n : Bytes) (k : Nat) : used (Dict.put h n k) + hold h n = used h + k := by
  unfold Dict.put
  rw [used_cons]
  have := used_del hok n
  simp only
  omega
theorem hold_put : hold (Dict.put h n k) m = if m = n then k else hold h m := by
  unfold hold
  rw [get_put]
  split <;> rfl
theorem hold_del : hold (Dict.del h n) m = if m = n then 0 else hold h m := by
  unfold hold
  rw [get_del]
  split <;> rfl
theorem hold_le (hok : Dict.Ok h) (n : Bytes) : hold h n ≤ used h := by
  have := used_del hok n
  omega
end

/-! ### sizes -/
def bytesOf (f : Files) : Nat := (f.map fun p => p.2.length).sum
theorem bytesOf_cons (p : Bytes × Bytes) (f : Files) : bytesOf (p :: f) = p.2.length + bytesOf f := by simp [bytesOf]
theorem bytesOf_le {f : Files} : ∀ {h : Dict Nat}, Dict.Ok f → Dict.Ok h → (∀ p ∈ f, p.2.length ≤ hold h p.1) → bytesOf f ≤ used h := by
  induction f with
  | nil => intro h _ _ _; simp [bytesOf]
  | cons p f ih =>
    intro h hf hh hle
    obtain ⟨hf', hp⟩ := hf.tail
    have h1 := ih hf' (hh.del p.1) (fun q hq => by
      rw [hold_del, if_neg (fun e => hp (List.mem_map.2 ⟨q, hq, e⟩))]
      exact hle q (by simp [hq]))
    have h2 := used_del hh p.1
    have h3 := hle p (by simp)
    rw [bytesOf_cons]
    omega
theorem lens_cons (p : Bytes × Bytes) (f : Files) : lens (p :: f) = if p.2.length = 0 then lens f else (p.1, p.2.length) :: lens f := by
  unfold lens
  rw [List.filter_cons]
  by_cases e : p.2.length = 0 <;> simp [e]
theorem used_lens (f : Files) : used (lens f) = bytesOf f := by
  induction f with
  | nil => rfl
  | cons p f ih =>
    rw [lens_cons, bytesOf_cons]
    split
    · omega
    · rw [used_cons]
      simp only
      omega
theorem lens_names {f : Files} {n : Bytes} (h : n ∈ (lens f).map (·.1)) : n ∈ f.map (·.1) := by
  unfold lens at h
  rw [List.map_map] at h
  obtain ⟨p, hp, e⟩ := List.mem_map.1 h
  exact List.mem_map.2 ⟨p, (List.mem_filter.1 hp).1, e⟩
theorem ok_lens {f : Files} (hf : Dict.Ok f) : Dict.Ok (lens f) := by
  unfold Dict.Ok lens
  rw [List.map_map]
  exact hf.sublist ((List.filter_sublist).map _)
theorem hold_lens {f : Files} (hf : Dict.Ok f) (n : Bytes) : hold (lens f) n = ((Dict.get f n).getD []).length := by
  induction f with
  | nil => rfl
  | cons p f ih =>
    obtain ⟨hf', hp⟩ := hf.tail
    rw [lens_cons, get_cons]
    by_cases e : p.1 = n
    · rw [if_pos e]
      split
      · rename_i h0
        have : hold (lens f) n = 0 := by
          unfold hold
          rw [get_notin (fun h => hp (by rw [e]; exact lens_names h))]
          rfl
        simp [this, h0]
      · rw [hold_cons, if_pos e]
        rfl
    · rw [if_neg e]
      split
      · exact ih hf'
      · rw [hold_cons, if_neg e]
        exact ih hf'

/-! ### acts -/
def eff (a : Deed) (o : Option Bytes) : Option Bytes :=
  if a.kind = 2 then none else if a.kind = 1 then o.map (·.take a.at_) else some (overlay (o.getD []) a.at_ a.b)
theorem get_does (f : Files) (a : Deed) (m : Bytes) : Dict.get (Files.does f a) m = if m = a.name then eff a (Dict.get f m) else Dict.get f m := by
  unfold Files.does eff
  split
  · rw [get_del]
  · split
    · cases hg : Dict.get f a.name with
      | none =>
        simp only
        split
        · rename_i e
          rw [e, hg]
          rfl
        · rfl
      | some x =>
        simp only
        rw [get_put]
        split
        · rename_i e
          rw [e, hg]
          rfl
        · rfl
    · rw [get_put]
      split
      · rename_i e
        rw [e]
      · rfl
theorem does_ok {f : Files} (hf : Dict.Ok f) (a : Deed) : Dict.Ok (Files.does f a) := by
  unfold Files.does
  split
  · exact hf.del _
  · split
    · split
      · exact hf
      · exact hf.put _ _
    · exact hf.put _ _
def effs (l : List Deed) (n : Bytes) (o : Option Bytes) : Option Bytes := (l.filter fun a => a.name == n).foldl (fun o a => eff a o) o
theorem effs_cons (a : Deed) (l : List Deed) (n : Bytes) (o : Option Bytes) : effs (a :: l) n o = effs l n (if n = a.name then eff a o else o) := by
  unfold effs
  rw [List.filter_cons]
  by_cases e : a.name = n
  · simp [e]
  · have e' : ¬ n = a.name := fun h => e h.symm
    simp [e, e']
theorem effs_nil (n : Bytes) (o : Option Bytes) : effs [] n o = o := rfl
theorem effs_append (l m : List Deed) (n : Bytes) (o : Option Bytes) : effs (l ++ m) n o = effs m n (effs l n o) := by
  unfold effs
  rw [List.filter_append, List.foldl_append]
theorem get_dones (l : List Deed) : ∀ (f : Files) (n : Bytes), Dict.get (l.foldl Files.does f) n = effs l n (Dict.get f n) := by
  induction l with
  | nil => intro f n; rfl
  | cons a l ih => intro f n; rw [List.foldl_cons, ih, get_does, effs_cons]
theorem dones_ok (l : List Deed) : ∀ {f : Files}, Dict.Ok f → Dict.Ok (l.foldl Files.does f) := by
  induction l with
  | nil => intro f h; exact h
  | cons a l ih => intro f h; exact ih (does_ok h a)
theorem effs_filter_all (l : List Deed) (q : Deed → Bool) (n : Bytes) (o : Option Bytes) (h : ∀ a ∈ l, a.name = n → q a = true) : effs (l.filter q) n o = effs l n o := by
  unfold effs
  rw [List.filter_filter]
  congr 1
  refine List.filter_congr fun a ha => ?_
  by_cases e : a.name = n
  · simp [e, h a ha e]
  · simp [e]
theorem effs_filter_none (l : List Deed) (q : Deed → Bool) (n : Bytes) (o : Option Bytes) (h : ∀ a ∈ l, a.name = n → q a = false) : effs (l.filter q) n o = o := by
  unfold effs
  rw [List.filter_filter]
  have : (l.filter fun a => (a.name == n) && q a) = [] := by
    rw [List.filter_eq_nil_iff]
    intro a ha
    by_cases e : a.name = n
    · simp [e, h a ha e]
    · simp [e]
  rw [this]
  rfl
theorem overlay_length (old : Bytes) (i : Nat) (b : Bytes) : (overlay old i b).length = max old.length (i + b.length) := by
  unfold overlay
  simp only [List.length_append, List.length_take, List.length_drop, List.length_replicate]
  omega
theorem eff_le {a : Deed} {o : Option Bytes} {k : Nat} (hfit : a.at_ + a.b.length ≤ k) (ho : ∀ x, o = some x → x.length ≤ k) : ∀ x, eff a o = some x → x.length ≤ k := by
  intro x hx
  unfold eff at hx
  split at hx
  · cases hx
  · split at hx
    · cases o with
      | none => cases hx
      | some y =>
        injection hx with hx
        subst hx
        have := ho y rfl
        rw [List.length_take]
        omega
    · injection hx with hx
      subst hx
      rw [overlay_length]
      cases o with
      | none => simp; omega
      | some y =>
        have := ho y rfl
        simp
        omega
theorem effs_le {n : Bytes} {k : Nat} : ∀ {l : List Deed} {o : Option Bytes}, (∀ a ∈ l, a.name = n → a.at_ + a.b.length ≤ k) → (∀ x, o = some x → x.length ≤ k) → ∀ x, effs l n o = some x → x.length ≤ k := by
  intro l
  induction l with
  | nil => intro o _ ho; exact ho
  | cons a l ih =>
    intro o hl ho
    rw [effs_cons]
    refine ih (fun b hb => hl b (by simp [hb])) ?_
    split
    · rename_i e
      exact eff_le (hl a (by simp) e.symm) ho
    · exact ho
theorem effs_some_of {n : Bytes} : ∀ {l : List Deed} {o : Option Bytes}, (effs l n o).isSome = true → o.isSome = true ∨ ∃ a ∈ l, a.name = n := by
  intro l
  induction l with
  | nil => intro o h; exact .inl h
  | cons a l ih =>
    intro o h
    by_cases e : n = a.name
    · exact .inr ⟨a, by simp, e.symm⟩
    · rw [effs_cons, if_neg e] at h
      rcases ih h with h1 | ⟨b, hb, e2⟩
      · exact .inl h1
      · exact .inr ⟨b, by simp [hb], e2⟩

/-! ### a disk -/
structure Dk.Ok (d : Dk) : Prop where
  room : d.room ≤ 16777216
  seenOk : Dict.Ok d.seen
  lastOk : Dict.Ok d.lasting
  heldOk : Dict.Ok d.held
  fits : used d.held ≤ d.room
  seenLe : ∀ n x, Dict.get d.seen n = some x → may n = true ∧ x.length ≤ hold d.held n
  lastLe : ∀ n x, Dict.get d.lasting n = some x → may n = true ∧ x.length ≤ hold d.held n
  pend : ∀ a ∈ d.pending, a.kind ≤ 2 ∧ may a.name = true ∧ a.at_ + a.b.length ≤ hold d.held a.name
  same : ∀ n, Dict.get d.seen n = effs d.pending n (Dict.get d.lasting n)

theorem empty_ok {room : Nat} (h : room ≤ 16777216) : (Dk.empty room).Ok :=
  ⟨h, by simp [Dk.empty, Dict.Ok], by simp [Dk.empty, Dict.Ok], by simp [Dk.empty, Dict.Ok], by simp [Dk.empty, used], by simp [Dk.empty, Dict.get], by simp [Dk.empty, Dict.get], by simp [Dk.empty], by simp [Dk.empty, Dict.get, effs_nil]⟩

section
variable {d : Dk}
theorem Dk.Ok.hold_room (h : d.Ok) (n : Bytes) : hold d.held n ≤ d.room := Nat.le_trans (hold_le h.heldOk n) h.fits
theorem Dk.Ok.act (h : d.Ok) (a : Deed) (hk : a.kind ≤ 2) (hm : may a.name = true) (h1 : a.kind ≠ 0 → a.at_ + a.b.length ≤ hold d.held a.name)
    (h2 : a.kind = 0 → used d.held + (a.at_ + a.b.length) ≤ d.room + hold d.held a.name) : (d.act a).Ok := by
  have hg := get_does d.seen a a.name
  rw [if_pos rfl] at hg
  -- what is held of the name behind it
  have hx : ∀ x, eff a (Dict.get d.seen a.name) = some x → x.length ≤ max (hold d.held a.name) (a.at_ + a.b.length) := eff_le (by omega) (fun x hx => by have := (h.seenLe _ x hx).2; omega)
  have key : ∃ h' : Dict Nat, (d.act a).held = h' ∧ Dict.Ok h' ∧ used h' ≤ d.room ∧ (∀ n, hold d.held n ≤ hold h' n) ∧ a.at_ + a.b.length ≤ hold h' a.name ∧ ∀ x, eff a (Dict.get d.seen a.name) = some x → x.length ≤ hold h' a.name := by
    unfold Dk.act
    rw [hg]
    cases he : eff a (Dict.get d.seen a.name) with
    | none =>
      refine ⟨_, rfl, h.heldOk, h.fits, fun n => Nat.le_refl _, ?_, by simp⟩
      by_cases h0 : a.kind = 0
      · simp [eff, h0] at he
      · exact h1 h0
    | some x =>
      have hu := used_put h.heldOk a.name (max (hold d.held a.name) x.length)
      have hx' := hx x he
      have hfits := h.fits
      refine ⟨_, rfl, h.heldOk.put _ _, ?_, fun n => ?_, ?_, ?_⟩
      · show used (Dict.put d.held a.name (max (hold d.held a.name) x.length)) ≤ _
        by_cases h0 : a.kind = 0
        · have := h2 h0
          omega
        · have := h1 h0
          omega
      · show _ ≤ hold (Dict.put d.held a.name (max (hold d.held a.name) x.length)) n
        rw [hold_put]
        split
        · rename_i e
          rw [e]
          omega
        · exact Nat.le_refl _
      · show _ ≤ hold (Dict.put d.held a.name (max (hold d.held a.name) x.length)) a.name
        rw [hold_put, if_pos rfl]
        by_cases h0 : a.kind = 0
        · have hl : a.at_ + a.b.length ≤ x.length := by
            simp only [eff, h0] at he
            simp at he
            rw [← he, overlay_length]
            omega
          omega
        · have := h1 h0
          omega
      · intro y hy
        injection hy with hy
        subst hy
        show _ ≤ hold (Dict.put d.held a.name (max (hold d.held a.name) x.length)) a.name
        rw [hold_put, if_pos rfl]
        omega
  obtain ⟨h', he, k1, k2, k3, k4, k5⟩ := key
  refine ⟨h.room, does_ok h.seenOk a, h.lastOk, by rw [he]; exact k1, by rw [he]; exact k2, ?_, ?_, ?_, ?_⟩
  · intro n x hx
    rw [he]
    have hx' : Dict.get (Files.does d.seen a) n = some x := hx
    rw [get_does] at hx'
    split at hx'
    · rename_i e
      subst e
      exact ⟨hm, k5 x hx'⟩
    · exact ⟨(h.seenLe n x hx').1, Nat.le_trans (h.seenLe n x hx').2 (k3 n)⟩
  · intro n x hx
    rw [he]
    exact ⟨(h.lastLe n x hx).1, Nat.le_trans (h.lastLe n x hx).2 (k3 n)⟩
  · intro b hb
    rw [he]
    have hb' : b ∈ d.pending ++ [a] := hb
    rcases List.mem_append.1 hb' with hb' | hb'
    · exact ⟨(h.pend b hb').1, (h.pend b hb').2.1, Nat.le_trans (h.pend b hb').2.2 (k3 _)⟩
    · rw [List.mem_singleton.1 hb']
      exact ⟨hk, hm, k4⟩
  · intro n
    show Dict.get (Files.does d.seen a) n = effs (d.pending ++ [a]) n (Dict.get d.lasting n)
    rw [get_does, effs_append, ← h.same n, effs_cons, effs_nil]

theorem Dk.Ok.write (h : d.Ok) (name b : Bytes) : (d.write name b).1.Ok := by
  unfold Dk.write
  split
  · exact h
  · rename_i hm
    have hm' : may name = true := by simpa using hm
    have go : ∀ i, i ≤ hold d.held name → (d.writeAt name i b).1.Ok := by
      intro i hi
      unfold Dk.writeAt
      split
      · exact h
      · rename_i hr
        refine h.act ⟨0, name, i, b⟩ (by simp) hm' (fun h => absurd rfl h) (fun _ => ?_)
        unfold hold
        simp only
        omega
    split
    · split
      · exact h
      · exact go 0 (Nat.zero_le _)
    · rename_i x hx
      exact go x.length (h.seenLe name x hx).2
theorem Dk.Ok.cut (h : d.Ok) (name : Bytes) (n : Int) : (d.cut name n).1.Ok := by
  unfold Dk.cut
  split
  · exact h
  · rename_i hm
    split
    · exact h
    · rename_i x hx
      split
      · exact h
      · rename_i hn
        have := (h.seenLe name x hx).2
        refine h.act ⟨1, name, n.toNat, []⟩ (by simp) (by simpa using hm) (fun _ => ?_) (fun h => by cases h)
        simp only [List.length_nil]
        omega
theorem Dk.Ok.drop (h : d.Ok) (name : Bytes) : (d.drop name).1.Ok := by
  unfold Dk.drop
  split
  · exact h
  · rename_i hm
    split
    · exact h
    · exact h.act ⟨2, name, 0, []⟩ (by simp) (by simpa using hm) (fun _ => by simp) (fun h => by cases h)

theorem hold_freed {h : Dict Nat} {f : Files} {n m : Bytes} : hold (freed h f n) m = if m = n then ((Dict.get f n).getD []).length else hold h m := by
  unfold freed
  cases hg : Dict.get f n with
  | none => simp only; rw [hold_del]; rfl
  | some x =>
    simp only
    split
    · rename_i h0
      rw [hold_del]
      simp [h0]
    · rw [hold_put]
      rfl
theorem freed_ok {h : Dict Nat} (hh : Dict.Ok h) (f : Files) (n : Bytes) : Dict.Ok (freed h f n) := by
  unfold freed
  split
  · exact hh.del _
  · split
    · exact hh.del _
    · exact hh.put _ _
theorem used_freed {h : Dict Nat} (hh : Dict.Ok h) (f : Files) (n : Bytes) : used (freed h f n) + hold h n = used h + ((Dict.get f n).getD []).length := by
  unfold freed
  cases hg : Dict.get f n with
  | none =>
    have := used_del hh n
    simp
    omega
  | some x =>
    simp only
    split
    · have := used_del hh n
      simp
      omega
    · have := used_put hh n x.length
      simp
      omega

theorem Dk.Ok.get_settled (h : d.Ok) (name m : Bytes) : Dict.get (d.settle fun a => a.name == name).lasting m = if m = name then Dict.get d.seen m else Dict.get d.lasting m := by
  show Dict.get ((d.pending.filter fun a => a.name == name).foldl Files.does d.lasting) m = _
  rw [get_dones]
  split
  · rename_i e
    rw [effs_filter_all _ _ _ _ (fun a _ ha => by simp [ha, e]), h.same]
  · rename_i e
    rw [effs_filter_none _ _ _ _ (fun a _ ha => by simpa [ha] using e)]

theorem Dk.Ok.sync (h : d.Ok) (name : Bytes) : (d.sync name).1.Ok := by
  unfold Dk.sync
  split
  · rename_i hl
    have hg := h.get_settled name
    have hf := h.fits
    have hle : ((Dict.get d.seen name).getD []).length ≤ hold d.held name := by
      cases hs : Dict.get d.seen name with
      | none => simp
      | some x => exact (h.seenLe name x hs).2
    have hgn := hg name
    rw [if_pos rfl] at hgn
    have hho : ∀ m, hold (freed d.held (d.settle fun a => a.name == name).lasting name) m = if m = name then ((Dict.get d.seen name).getD []).length else hold d.held m := by
      intro m
      rw [hold_freed, hgn]
    refine ⟨h.room, h.seenOk, dones_ok _ h.lastOk, freed_ok h.heldOk _ _, ?_, ?_, ?_, ?_, ?_⟩
    · have := used_freed h.heldOk (d.settle fun a => a.name == name).lasting name
      rw [hgn] at this
      show used (freed d.held (d.settle fun a => a.name == name).lasting name) ≤ d.room
      omega
    · intro n x hx
      refine ⟨(h.seenLe n x hx).1, ?_⟩
      show _ ≤ hold (freed d.held (d.settle fun a => a.name == name).lasting name) n
      rw [hho]
      split
      · rename_i e
        subst e
        have hx' : Dict.get d.seen n = some x := hx
        rw [hx']
        exact Nat.le_refl _
      · exact (h.seenLe n x hx).2
    · intro n x hx
      have hx' : Dict.get (d.settle fun a => a.name == name).lasting n = some x := hx
      rw [hg] at hx'
      show _ ∧ _ ≤ hold (freed d.held (d.settle fun a => a.name == name).lasting name) n
      rw [hho]
      split at hx'
      · rename_i e
        subst e
        rw [if_pos rfl, hx']
        exact ⟨(h.seenLe n x hx').1, Nat.le_refl _⟩
      · rename_i e
        rw [if_neg e]
        exact h.lastLe n x hx'
    · intro a ha
      have ha' : a ∈ d.pending.filter fun a => !(a.name == name) := ha
      obtain ⟨h1, h2⟩ := List.mem_filter.1 ha'
      refine ⟨(h.pend a h1).1, (h.pend a h1).2.1, ?_⟩
      show _ ≤ hold (freed d.held (d.settle fun a => a.name == name).lasting name) a.name
      rw [hho, if_neg (by simpa using h2)]
      exact (h.pend a h1).2.2
    · intro n
      show Dict.get d.seen n = effs (d.pending.filter fun a => !(a.name == name)) n (Dict.get (d.settle fun a => a.name == name).lasting n)
      rw [hg]
      by_cases e : n = name
      · rw [if_pos e, effs_filter_none _ _ _ _ (fun a _ ha => by simp [ha, e])]
      · rw [if_neg e, effs_filter_all _ _ _ _ (fun a _ ha => by simpa [ha] using e)]
        exact h.same n
  · exact h

theorem rest_ok {d : Dk} {g : Dict Nat} (hr : d.room ≤ 16777216) (hl : Dict.Ok d.lasting) (hg : Dict.Ok g) (hu : used g ≤ d.room) (hp : d.pending = [])
    (hle : ∀ n x, Dict.get d.lasting n = some x → may n = true ∧ x.length ≤ hold g n) : d.rest.Ok := by
  have hb : bytesOf d.lasting ≤ used g := bytesOf_le hl hg fun p hp => (hle p.1 p.2 (get_of_mem hl hp)).2
  have hlen : ∀ n x, Dict.get d.lasting n = some x → may n = true ∧ x.length ≤ hold (lens d.lasting) n := fun n x hx => ⟨(hle n x hx).1, by rw [hold_lens hl, hx]; exact Nat.le_refl _⟩
  refine ⟨hr, hl, hl, ok_lens hl, ?_, hlen, hlen, ?_, ?_⟩
  · show used (lens d.lasting) ≤ d.room
    rw [used_lens]
    omega
  · intro a ha
    have ha' : a ∈ d.pending := ha
    rw [hp] at ha'
    cases ha'
  · intro n
    show Dict.get d.lasting n = effs d.pending n (Dict.get d.lasting n)
    rw [hp, effs_nil]

theorem Dk.Ok.get_flushed (h : d.Ok) (m : Bytes) : Dict.get (d.settle fun _ => true).lasting m = Dict.get d.seen m := by
  show Dict.get ((d.pending.filter fun _ => true).foldl Files.does d.lasting) m = _
  rw [get_dones, effs_filter_all _ _ _ _ (fun _ _ _ => rfl), h.same]
theorem Dk.Ok.flush (h : d.Ok) : d.flush.Ok := by
  refine rest_ok (d := d.settle fun _ => true) (g := d.held) h.room (dones_ok _ h.lastOk) h.heldOk h.fits ?_ (fun n x hx => ?_)
  · show (d.pending.filter fun _ => !true) = []
    simp
  · rw [h.get_flushed] at hx
    exact h.seenLe n x hx

theorem keeps_mem : ∀ {l : List Deed} {ks : List Bool} {a : Deed}, a ∈ keeps l ks → a ∈ l := by
  intro l
  induction l with
  | nil => intro ks a h; cases ks <;> simp [keeps] at h
  | cons b l ih =>
    intro ks a h
    cases ks with
    | nil => simp [keeps] at h
    | cons k ks =>
      simp only [keeps] at h
      split at h
      · rcases List.mem_cons.1 h with h | h
        · simp [h]
        · simp [ih h]
      · simp [ih h]
/-- each act that is kept is one of those, maybe with less bytes. -/
theorem torn_mem {l : List Deed} {tear : Int} {a : Deed} (h : a ∈ torn l tear) : ∃ b ∈ l, a.kind = b.kind ∧ a.name = b.name ∧ a.at_ = b.at_ ∧ a.b.length ≤ b.b.length := by
  unfold torn at h
  split at h
  · cases h
  · rename_i c hc
    split at h
    · rcases List.mem_append.1 h with h | h
      · exact ⟨a, (List.dropLast_sublist _).subset h, rfl, rfl, rfl, Nat.le_refl _⟩
      · rw [List.mem_singleton.1 h]
        refine ⟨c, List.mem_of_getLast? hc, rfl, rfl, rfl, ?_⟩
        simp only [List.length_take]
        omega
    · exact ⟨a, h, rfl, rfl, rfl, Nat.le_refl _⟩
theorem Dk.Ok.kept (h : d.Ok) (keep : List Bool) (tear : Int) : ∀ a ∈ torn (keeps d.pending keep) tear, a.kind ≤ 2 ∧ may a.name = true ∧ a.at_ + a.b.length ≤ hold d.held a.name := by
  intro a ha
  obtain ⟨b, hb, e1, e2, e3, e4⟩ := torn_mem ha
  have := h.pend b (keeps_mem hb)
  rw [e1, e2, e3]
  exact ⟨this.1, this.2.1, by have := this.2.2; omega⟩
theorem dones_le {l : List Deed} {f : Files} {g : Dict Nat} (hl : ∀ a ∈ l, a.kind ≤ 2 ∧ may a.name = true ∧ a.at_ + a.b.length ≤ hold g a.name) (hf : ∀ n x, Dict.get f n = some x → may n = true ∧ x.length ≤ hold g n) :
    ∀ n x, Dict.get (l.foldl Files.does f) n = some x → may n = true ∧ x.length ≤ hold g n := by
  intro n x hx
  rw [get_dones] at hx
  refine ⟨?_, effs_le (fun a ha e => by rw [← e]; exact (hl a ha).2.2) (fun y hy => (hf n y hy).2) x hx⟩
  rcases effs_some_of (by rw [hx]; rfl) with h1 | ⟨a, ha, e⟩
  · obtain ⟨y, hy⟩ := Option.isSome_iff_exists.1 h1
    exact (hf n y hy).1
  · rw [← e]
    exact (hl a ha).2.1
theorem Dk.Ok.crash (h : d.Ok) (keep : List Bool) (tear : Int) : (d.crash keep tear).Ok :=
  rest_ok (d := { d with lasting := (torn (keeps d.pending keep) tear).foldl Files.does d.lasting, pending := [] }) (g := d.held) h.room (dones_ok _ h.lastOk) h.heldOk h.fits rfl (dones_le (h.kept keep tear) h.lastLe)
end
end Go.Proofs.YtdbhccehbjhbpaaGreatDoor.Disk

/- disk: calls, and what the laws say of them. No program. -/
namespace Go.Proofs.YtdbhccehbjhbpaaGreatDoor.Disk

structure Do where
  op : Int
  name : Bytes
  b : Bytes
  n : Int
  keep : List Bool
def Do.o8 (k : Do) : Int := k.op % 8
def Dk.call (d : Dk) (k : Do) : Dk × Int :=
  if k.o8 = 3 then d.cut k.name k.n else if k.o8 = 4 then d.drop k.name else if k.o8 = 5 then d.sync k.name
  else if k.o8 = 6 then (d.flush, 0) else if k.o8 = 7 then (d.crash k.keep k.n, 0) else d.write k.name k.b
def Dk.calls (d : Dk) (l : List Do) : Dk := l.foldl (fun d k => (d.call k).1) d

section
variable {d e : Dk}
theorem Dk.Ok.call (h : d.Ok) (k : Do) : (d.call k).1.Ok := by
  unfold Dk.call
  split
  · exact h.cut _ _
  split
  · exact h.drop _
  split
  · exact h.sync _
  split
  · exact h.flush
  split
  · exact h.crash _ _
  · exact h.write _ _
theorem write_room (d : Dk) (n b : Bytes) : (d.write n b).1.room = d.room := by
  have : ∀ i, (d.writeAt n i b).1.room = d.room := by intro i; unfold Dk.writeAt; split <;> rfl
  unfold Dk.write
  split
  · rfl
  split
  · split
    · rfl
    · exact this _
  · exact this _
theorem cut_room (d : Dk) (n : Bytes) (i : Int) : (d.cut n i).1.room = d.room := by
  unfold Dk.cut
  split
  · rfl
  split
  · rfl
  split <;> rfl
theorem drop_room (d : Dk) (n : Bytes) : (d.drop n).1.room = d.room := by
  unfold Dk.drop
  split
  · rfl
  split <;> rfl
theorem sync_room (d : Dk) (n : Bytes) : (d.sync n).1.room = d.room := by
  unfold Dk.sync
  split <;> rfl
theorem call_room (d : Dk) (k : Do) : (d.call k).1.room = d.room := by
  unfold Dk.call
  split
  · exact cut_room _ _ _
  split
  · exact drop_room _ _
  split
  · exact sync_room _ _
  split
  · rfl
  split
  · rfl
  · exact write_room _ _ _
theorem write_pend (d : Dk) (n b : Bytes) : (d.write n b).1.pending.length ≤ d.pending.length + 1 := by
  have : ∀ i, (d.writeAt n i b).1.pending.length ≤ d.pending.length + 1 := by
    intro i
    unfold Dk.writeAt
    split
    · simp
    · simp [Dk.act]
  unfold Dk.write
  split
  · simp
  split
  · split
    · simp
    · exact this _
  · exact this _
theorem cut_pend (d : Dk) (n : Bytes) (i : Int) : (d.cut n i).1.pending.length ≤ d.pending.length + 1 := by
  unfold Dk.cut
  split
  · simp
  split
  · simp
  split
  · simp
  · simp [Dk.act]
theorem drop_pend (d : Dk) (n : Bytes) : (d.drop n).1.pending.length ≤ d.pending.length + 1 := by
  unfold Dk.drop
  split
  · simp
  split
  · simp
  · simp [Dk.act]
theorem sync_pend (d : Dk) (n : Bytes) : (d.sync n).1.pending.length ≤ d.pending.length + 1 := by
  unfold Dk.sync
  split
  · exact Nat.le_succ_of_le (List.length_filter_le _ _)
  · simp
theorem flush_pend (d : Dk) : d.flush.pending = [] := by
  show (d.pending.filter fun _ => !true) = []
  simp
theorem call_pend (d : Dk) (k : Do) : (d.call k).1.pending.length ≤ d.pending.length + 1 := by
  unfold Dk.call
  split
  · exact cut_pend _ _ _
  split
  · exact drop_pend _ _
  split
  · exact sync_pend _ _
  split
  · show d.flush.pending.length ≤ _
    rw [flush_pend]
    simp
  split
  · show ([] : List Deed).length ≤ _
    simp
  · exact write_pend _ _ _

/-- what is refused changes nothing. -/
theorem call_err (d : Dk) (k : Do) (h : (d.call k).2 ≠ 0) : (d.call k).1 = d := by
  unfold Dk.call at h ⊢
  split
  · rename_i h3
    rw [if_pos h3] at h
    revert h
    unfold Dk.cut
    split
    · intro _; rfl
    split
    · intro _; rfl
    split
    · intro _; rfl
    · intro h; exact absurd rfl h
  · rename_i h3
    rw [if_neg h3] at h
    split
    · rename_i h4
      rw [if_pos h4] at h
      revert h
      unfold Dk.drop
      split
      · intro _; rfl
      split
      · intro _; rfl
      · intro h; exact absurd rfl h
    · rename_i h4
      rw [if_neg h4] at h
      split
      · rename_i h5
        rw [if_pos h5] at h
        revert h
        unfold Dk.sync
        split
        · intro h; exact absurd rfl h
        · intro _; rfl
      · rename_i h5
        rw [if_neg h5] at h
        split
        · rename_i h6
          rw [if_pos h6] at h
          exact absurd rfl h
        · rename_i h6
          rw [if_neg h6] at h
          split
          · rename_i h7
            rw [if_pos h7] at h
            exact absurd rfl h
          · rename_i h7
            rw [if_neg h7] at h
            revert h
            have go : ∀ i, (d.writeAt k.name i k.b).2 ≠ 0 → (d.writeAt k.name i k.b).1 = d := by
              intro i
              unfold Dk.writeAt
              split
              · intro _; rfl
              · intro h; exact absurd rfl h
            unfold Dk.write
            split
            · intro _; rfl
            split
            · split
              · intro _; rfl
              · exact go _
            · exact go _

/-! ### two disks that are seen alike -/
def Alike (d e : Dk) : Prop := ∀ n, Dict.get d.seen n = Dict.get e.seen n
theorem perm_of_get {α : Type} {f : Dict α} : ∀ {g : Dict α}, Dict.Ok f → Dict.Ok g → (∀ n, Dict.get f n = Dict.get g n) → f.Perm g := by
  induction f with
  | nil =>
    intro g _ _ h
    cases g with
    | nil => exact List.Perm.refl _
    | cons p g =>
      have := h p.1
      rw [get_cons, if_pos rfl] at this
      cases this
  | cons p f ih =>
    intro g hf hg h
    obtain ⟨hf', hp⟩ := hf.tail
    have h1 := h p.1
    rw [get_cons, if_pos rfl] at h1
    obtain ⟨g1, g2, rfl⟩ := List.append_of_mem (get_mem h1.symm)
    have hd := del_split (.refl _) hg
    have hdel : ∀ n, Dict.get f n = Dict.get (g1 ++ g2) n := by
      intro n
      rw [get_perm (hg.del p.1 |>.perm hd.symm) hd, get_del]
      split
      · rename_i e
        rw [e]
        exact get_notin hp
      · rename_i e
        rw [← h n, get_cons, if_neg (fun h => e h.symm)]
    exact ((ih hf' (hg.del p.1 |>.perm hd.symm) hdel).cons p).trans List.perm_middle.symm
theorem Alike.perm (h : Alike d e) (hd : d.Ok) (he : e.Ok) : d.seen.Perm e.seen := perm_of_get hd.seenOk he.seenOk h
theorem Alike.refl (d : Dk) : Alike d d := fun _ => rfl
theorem Alike.trans {f : Dk} (h : Alike d e) (g : Alike e f) : Alike d f := fun n => (h n).trans (g n)
theorem Alike.symm (h : Alike d e) : Alike e d := fun n => (h n).symm
theorem Dk.Ok.flush_alike (h : d.Ok) : Alike d d.flush := fun n => (h.get_flushed n).symm
theorem keeps_nil (ks : List Bool) : keeps [] ks = [] := by cases ks <;> rfl
/-- a crash where nothing is pending. -/
theorem Dk.Ok.crash_alike (h : d.Ok) (hp : d.pending = []) (keep : List Bool) (tear : Int) : Alike d (d.crash keep tear) := by
  intro n
  show Dict.get d.seen n = Dict.get ((torn (keeps d.pending keep) tear).foldl Files.does d.lasting) n
  rw [hp, keeps_nil, h.same, hp, effs_nil]
  rfl
theorem keeps_all (l : List Deed) : keeps l (List.replicate l.length true) = l := by
  induction l with
  | nil => rfl
  | cons a l ih =>
    rw [List.length_cons, List.replicate_succ]
    simp only [keeps, if_true]
    rw [ih]
theorem torn_none (l : List Deed) {tear : Int} (h : tear ≤ 0) : torn l tear = l := by
  unfold torn
  cases hl : l.getLast? with
  | none =>
    rw [List.getLast?_eq_none_iff] at hl
    rw [hl]
  | some a =>
    simp only
    split
    · have h0 : (min (max tear 0).toNat a.b.length) = 0 := by omega
      rw [h0, Nat.sub_zero, List.take_length]
      have e : ({ a with b := a.b } : Deed) = a := rfl
      rw [e]
      obtain ⟨m, rfl⟩ := List.getLast?_eq_some_iff.1 hl
      simp
    · rfl
theorem Dk.Ok.crash_all (h : d.Ok) {tear : Int} (ht : tear ≤ 0) : Alike d (d.crash (List.replicate d.pending.length true) tear) := by
  intro n
  show Dict.get d.seen n = Dict.get ((torn (keeps d.pending (List.replicate d.pending.length true)) tear).foldl Files.does d.lasting) n
  rw [keeps_all, torn_none _ ht, get_dones, h.same]
theorem keeps_none (l : List Deed) : keeps l [] = [] := by cases l <;> rfl
/-- a crash that keeps nothing. -/
theorem crash_none (d : Dk) (tear : Int) : (d.crash [] tear).seen = d.lasting := by
  show (torn (keeps d.pending []) tear).foldl Files.does d.lasting = d.lasting
  rw [keeps_none]
  rfl
theorem crash_pend (d : Dk) (keep : List Bool) (tear : Int) : (d.crash keep tear).pending = [] := rfl

/-! ### reads -/
theorem Dk.Ok.read_of (h : d.Ok) (n : Bytes) : d.read n = (match Dict.get d.seen n with | some x => (x, 0) | none => ([], if may n = false then 6 else 20)) := by
  unfold Dk.read
  cases hg : Dict.get d.seen n with
  | none => simp only; split <;> rfl
  | some x => simp [(h.seenLe n x hg).1]
theorem read_alike (hd : d.Ok) (he : e.Ok) {n : Bytes} (h : Dict.get d.seen n = Dict.get e.seen n) : d.read n = e.read n := by
  rw [hd.read_of, he.read_of, h]

/-! ### an act leaves the others alone -/
theorem act_other (d : Dk) (a : Deed) {n : Bytes} (h : n ≠ a.name) : Dict.get (d.act a).seen n = Dict.get d.seen n := by
  show Dict.get (Files.does d.seen a) n = _
  rw [get_does, if_neg h]
theorem write_cases (d : Dk) (n b : Bytes) : (∃ e, e ≠ 0 ∧ d.write n b = (d, e)) ∨ d.write n b = (d.act ⟨0, n, ((Dict.get d.seen n).getD []).length, b⟩, 0) := by
  have go : ∀ i, (∃ e, e ≠ 0 ∧ d.writeAt n i b = (d, e)) ∨ d.writeAt n i b = (d.act ⟨0, n, i, b⟩, 0) := by
    intro i
    unfold Dk.writeAt
    split
    · exact .inl ⟨7, by decide, rfl⟩
    · exact .inr rfl
  unfold Dk.write
  split
  · exact .inl ⟨6, by decide, rfl⟩
  cases hg : Dict.get d.seen n with
  | none =>
    simp only
    split
    · exact .inl ⟨7, by decide, rfl⟩
    · exact go 0
  | some x => exact go x.length
theorem cut_cases (d : Dk) (n : Bytes) (i : Int) : (∃ e, e ≠ 0 ∧ d.cut n i = (d, e)) ∨ ∃ a : Deed, a.kind = 1 ∧ a.name = n ∧ d.cut n i = (d.act a, 0) := by
  unfold Dk.cut
  split
  · exact .inl ⟨6, by decide, rfl⟩
  split
  · exact .inl ⟨20, by decide, rfl⟩
  split
  · exact .inl ⟨1, by decide, rfl⟩
  · exact .inr ⟨_, rfl, rfl, rfl⟩
theorem drop_cases (d : Dk) (n : Bytes) : (∃ e, e ≠ 0 ∧ d.drop n = (d, e)) ∨ ∃ a : Deed, a.kind = 2 ∧ a.name = n ∧ d.drop n = (d.act a, 0) := by
  unfold Dk.drop
  split
  · exact .inl ⟨6, by decide, rfl⟩
  split
  · exact .inl ⟨20, by decide, rfl⟩
  · exact .inr ⟨_, rfl, rfl, rfl⟩
theorem sync_seen (d : Dk) (n : Bytes) : (d.sync n).1.seen = d.seen := by
  unfold Dk.sync
  split <;> rfl
theorem call_apart (h : d.Ok) (k : Do) (h7 : k.o8 ≠ 7) {n : Bytes} (hn : n ≠ k.name) : Dict.get (d.call k).1.seen n = Dict.get d.seen n := by
  unfold Dk.call
  split
  · rcases cut_cases d k.name k.n with ⟨e, -, he⟩ | ⟨a, -, ha, he⟩
    · rw [he]
    · rw [he]; exact act_other d a (by rw [ha]; exact hn)
  split
  · rcases drop_cases d k.name with ⟨e, -, he⟩ | ⟨a, -, ha, he⟩
    · rw [he]
    · rw [he]; exact act_other d a (by rw [ha]; exact hn)
  split
  · rw [sync_seen]
  split
  · exact h.get_flushed n
  · rcases write_cases d k.name k.b with ⟨e, -, he⟩ | he
    · rw [he]
    · rw [he]; exact act_other d _ hn
/-- acts alone leave alone what lasts. -/
theorem call_lasting (d : Dk) (k : Do) (h5 : k.o8 < 5) : (d.call k).1.lasting = d.lasting := by
  unfold Dk.call
  split
  · rcases cut_cases d k.name k.n with ⟨e, -, he⟩ | ⟨a, -, ha, he⟩ <;> rw [he] <;> rfl
  split
  · rcases drop_cases d k.name with ⟨e, -, he⟩ | ⟨a, -, ha, he⟩ <;> rw [he] <;> rfl
  split
  · omega
  split
  · omega
  split
  · omega
  · rcases write_cases d k.name k.b with ⟨e, -, he⟩ | he <;> rw [he] <;> rfl
theorem look_ok {d : Dk} (h : d.Ok) {n : Bytes} : d.look n = 0 ↔ ∃ x, Dict.get d.seen n = some x := by
  unfold Dk.look
  cases hg : Dict.get d.seen n with
  | none => by_cases hm : may n = false <;> simp [hm]
  | some x => simp [(h.seenLe n x hg).1]
theorem sync_err (d : Dk) (n : Bytes) : (d.sync n).2 = d.look n := by
  unfold Dk.sync
  split
  · rename_i h
    exact h.symm
  · rfl
theorem sync_lasting (h : d.Ok) (n : Bytes) (hl : d.look n = 0) (m : Bytes) : Dict.get (d.sync n).1.lasting m = if m = n then Dict.get d.seen m else Dict.get d.lasting m := by
  unfold Dk.sync
  rw [if_pos hl]
  exact h.get_settled n m

/-! ### DiskNothing -/
/-- behind a flush, acts and maybe a sync: what a crash that keeps nothing leaves. -/
theorem nothing_left {d0 d : Dk} (h : d.Ok) (hl : ∀ m, Dict.get d.lasting m = Dict.get d0.seen m) (name m : Bytes) :
    Dict.get (((d.sync name).1).crash [] 0).seen m = if m = name ∧ (d.sync name).2 = 0 then Dict.get (d.sync name).1.seen m else Dict.get d0.seen m := by
  rw [crash_none, sync_err, sync_seen]
  by_cases h0 : d.look name = 0
  · rw [sync_lasting h name h0]
    by_cases e : m = name
    · simp [e, h0]
    · simp [e, hl]
  · have : (d.sync name).1 = d := by unfold Dk.sync; rw [if_neg h0]
    rw [this, if_neg (fun h => h0 h.2), hl]
theorem Dk.Ok.flush_lasting (h : d.Ok) (m : Bytes) : Dict.get d.flush.lasting m = Dict.get d.seen m := h.get_flushed m

/-! ### DiskRoom -/
theorem Dk.Ok.bytes_used (h : d.Ok) : bytesOf d.seen ≤ used d.held := bytesOf_le h.seenOk h.heldOk fun p hp => (h.seenLe p.1 p.2 (get_of_mem h.seenOk hp)).2
theorem full_why (h : d.Ok) (k : Do) (hf : (d.call k).2 = 7) (hu : used d.held + k.b.length ≤ d.room) : 4096 ≤ d.seen.length := by
  have look7 : ∀ n, d.look n ≠ 7 := by
    intro n
    unfold Dk.look
    split
    · decide
    · split <;> decide
  unfold Dk.call at hf
  split at hf
  · revert hf
    unfold Dk.cut
    split
    · intro h; cases h
    split
    · intro h; cases h
    split
    · intro h; cases h
    · intro h; cases h
  split at hf
  · revert hf
    unfold Dk.drop
    split
    · intro h; cases h
    split
    · intro h; cases h
    · intro h; cases h
  split at hf
  · rw [sync_err] at hf
    exact absurd hf (look7 _)
  split at hf
  · cases hf
  split at hf
  · cases hf
  · revert hf
    unfold Dk.write
    split
    · intro h; cases h
    split
    · split
      · intro _; assumption
      · unfold Dk.writeAt
        split
        · rename_i hb
          intro _
          exfalso
          omega
        · intro h; cases h
    · rename_i x hx
      have := (h.seenLe k.name x hx).2
      unfold hold at this
      unfold Dk.writeAt
      split
      · rename_i hb
        intro _
        exfalso
        omega
      · intro h; cases h

/-! ### DiskPieces -/
theorem overlay_end (x b : Bytes) : overlay x x.length b = x ++ b := by
  unfold overlay
  have e : x.length + b.length - x.length = b.length := by omega
  rw [e, List.take_left', List.drop_eq_nil_of_le]
  · simp
  · simp
  · rfl
theorem eff_append (n : Bytes) (o : Option Bytes) (b : Bytes) : eff ⟨0, n, (o.getD []).length, b⟩ o = some (o.getD [] ++ b) := by
  unfold eff
  rw [if_neg (by simp), if_neg (by simp), overlay_end]
/-- a write that goes in. -/
def Fits (d : Dk) (n : Bytes) (k : Nat) : Prop := may n = true ∧ (Dict.get d.seen n = none → d.seen.length < 4096) ∧ used d.held + ((Dict.get d.seen n).getD []).length + k ≤ d.room + hold d.held n
theorem write_iff (h : d.Ok) (n b : Bytes) : (d.write n b).2 = 0 ↔ Fits d n b.length := by
  have hf := h.fits
  unfold Fits Dk.write
  by_cases hm : may n = true
  · simp only [hm, true_and]
    simp only [Bool.true_eq_false, if_false]
    cases hg : Dict.get d.seen n with
    | none =>
      simp only [true_implies, Option.getD_none, List.length_nil]
      by_cases h4 : 4096 ≤ d.seen.length
      · rw [if_pos h4]
        constructor
        · intro h; cases h
        · intro h; omega
      · rw [if_neg h4]
        unfold Dk.writeAt hold
        split
        · rename_i hb
          constructor
          · intro h; cases h
          · intro h; exfalso; omega
        · rename_i hb
          exact ⟨fun _ => ⟨by omega, by omega⟩, fun _ => rfl⟩
    | some x =>
      simp only [reduceCtorEq, false_implies, true_and, Option.getD_some]
      unfold Dk.writeAt hold
      split
      · rename_i hb
        constructor
        · intro h; cases h
        · intro h; exfalso; omega
      · rename_i hb
        exact ⟨fun _ => by omega, fun _ => rfl⟩
  · have hm' : may n = false := by simpa using hm
    simp [hm']
theorem write_did (_h : d.Ok) (n b : Bytes) (hw : (d.write n b).2 = 0) : d.write n b = (d.act ⟨0, n, ((Dict.get d.seen n).getD []).length, b⟩, 0) := by
  rcases write_cases d n b with ⟨e, he, h1⟩ | h1
  · rw [h1] at hw
    exact absurd hw he
  · exact h1
theorem act_write_seen (d : Dk) (n b m : Bytes) : Dict.get (d.act ⟨0, n, ((Dict.get d.seen n).getD []).length, b⟩).seen m = if m = n then some ((Dict.get d.seen n).getD [] ++ b) else Dict.get d.seen m := by
  show Dict.get (Files.does d.seen ⟨0, n, ((Dict.get d.seen n).getD []).length, b⟩) m = _
  rw [get_does]
  simp only
  split
  · rename_i e
    subst e
    exact eff_append m _ b
  · rfl
theorem act_write_held (d : Dk) (n b : Bytes) : (d.act ⟨0, n, ((Dict.get d.seen n).getD []).length, b⟩).held = Dict.put d.held n (max (hold d.held n) (((Dict.get d.seen n).getD []).length + b.length)) := by
  have h1 := act_write_seen d n b n
  rw [if_pos rfl] at h1
  have h2 : Dict.get (Files.does d.seen ⟨0, n, ((Dict.get d.seen n).getD []).length, b⟩) n = some ((Dict.get d.seen n).getD [] ++ b) := h1
  unfold Dk.act
  simp only
  rw [h2]
  simp [hold]
theorem put_length {α : Type} {f : Dict α} (hf : Dict.Ok f) (n : Bytes) (x : α) : (Dict.put f n x).length = if Dict.get f n = none then f.length + 1 else f.length := by
  cases hg : Dict.get f n with
  | none => rw [put_new hg]; simp
  | some y =>
    obtain ⟨l1, l2, hs⟩ := List.append_of_mem (get_mem hg)
    have h1 := (put_split (.of_eq hs.symm) hf x).length_eq
    rw [← h1, hs]
    simp
theorem pieces (h : d.Ok) (n a b : Bytes) :
    (((d.write n (a ++ b)).2 = 0) ↔ ((d.write n a).2 = 0 ∧ ((d.write n a).1.write n b).2 = 0)) ∧
    ((d.write n (a ++ b)).2 = 0 → Alike (d.write n (a ++ b)).1 ((d.write n a).1.write n b).1 ∧ used (d.write n (a ++ b)).1.held = used ((d.write n a).1.write n b).1.held) := by
  have hf := h.fits
  have h1 := h.write n a
  by_cases ha : (d.write n a).2 = 0
  · have e1 := write_did h n a ha
    have hs := act_write_seen d n a
    have hh := act_write_held d n a
    have fa := (write_iff h n a).1 ha
    have hsn := hs n
    rw [if_pos rfl] at hsn
    have hput := used_put h.heldOk n (max (hold d.held n) (((Dict.get d.seen n).getD []).length + a.length))
    rw [e1] at h1 ⊢
    simp only at h1 ⊢
    have hle := hold_le h.heldOk n
    have f2 : Fits (d.act ⟨0, n, ((Dict.get d.seen n).getD []).length, a⟩) n b.length ↔ Fits d n (a ++ b).length := by
      unfold Fits
      rw [hsn, hh, hold_put, if_pos rfl]
      simp only [Option.getD_some, List.length_append, reduceCtorEq, false_implies, true_and]
      show may n = true ∧ _ ≤ d.room + _ ↔ _
      obtain ⟨f1, f2, f3⟩ := fa
      constructor
      · rintro ⟨g1, g2⟩
        refine ⟨g1, f2, ?_⟩
        omega
      · rintro ⟨g1, g2, g3⟩
        refine ⟨g1, ?_⟩
        omega
    have w2 := write_iff h1 n b
    have w3 := write_iff h n (a ++ b)
    refine ⟨by rw [w2, w3, f2]; simp, fun hab => ?_⟩
    have e3 := write_did h n (a ++ b) hab
    have hb : ((d.act ⟨0, n, ((Dict.get d.seen n).getD []).length, a⟩).write n b).2 = 0 := by rw [w2, f2, ← w3]; exact hab
    have e2 := write_did h1 n b hb
    rw [e2, e3]
    have hs3 := act_write_seen d n (a ++ b)
    have hs2 := act_write_seen (d.act ⟨0, n, ((Dict.get d.seen n).getD []).length, a⟩) n b
    have hh3 := act_write_held d n (a ++ b)
    have hh2 := act_write_held (d.act ⟨0, n, ((Dict.get d.seen n).getD []).length, a⟩) n b
    refine ⟨fun m => ?_, ?_⟩
    · simp only
      rw [hs3, hs2, hsn]
      split
      · simp
      · rename_i hm
        rw [hs m, if_neg hm]
    · simp only
      rw [hh3, hh2, hsn, hh]
      have u1 := used_put h.heldOk n (max (hold d.held n) (((Dict.get d.seen n).getD []).length + (a ++ b).length))
      have u2 := used_put (h.heldOk.put n (max (hold d.held n) (((Dict.get d.seen n).getD []).length + a.length))) n (max (hold (Dict.put d.held n (max (hold d.held n) (((Dict.get d.seen n).getD []).length + a.length))) n) ((((Dict.get d.seen n).getD []) ++ a).length + b.length))
      rw [hold_put, if_pos rfl] at u2 ⊢
      simp only [List.length_append, Option.getD_some] at u1 u2 ⊢
      omega
  · have hne : ¬ Fits d n (a ++ b).length := by
      intro hF
      refine ha ((write_iff h n a).2 ⟨hF.1, hF.2.1, ?_⟩)
      have := hF.2.2
      simp only [List.length_append] at this
      omega
    have hne' : ¬ (d.write n (a ++ b)).2 = 0 := fun h0 => hne ((write_iff h n (a ++ b)).1 h0)
    exact ⟨⟨fun h0 => absurd h0 hne', fun h0 => absurd h0.1 ha⟩, fun h0 => absurd h0 hne'⟩
end
end Go.Proofs.YtdbhccehbjhbpaaGreatDoor.Disk

/- disk: what a crash leaves of a file to which only writes were done. No program. -/
namespace Go.Proofs.YtdbhccehbjhbpaaGreatDoor.Disk

/-- acts that, of this name, only write behind its end. -/
inductive Grows (name : Bytes) : Bytes → List Deed → Bytes → Prop
  | nil (s : Bytes) : Grows name s [] s
  | other (a : Deed) {s t : Bytes} {l : List Deed} : a.name ≠ name → Grows name s l t → Grows name s (a :: l) t
  | one (a : Deed) {s t : Bytes} {l : List Deed} : a.name = name → a.kind = 0 → a.at_ = s.length → Grows name (s ++ a.b) l t → Grows name s (a :: l) t
/-- acts of which some are left out, and some write less. -/
inductive Less : List Deed → List Deed → Prop
  | nil : Less [] []
  | drop (a : Deed) {l m : List Deed} : Less l m → Less (a :: l) m
  | keep (a a' : Deed) {l m : List Deed} (j : Nat) : a' = { a with b := a.b.take j } → Less l m → Less (a :: l) (a' :: m)
theorem Less.refl : ∀ l : List Deed, Less l l
  | [] => .nil
  | a :: l => .keep a a a.b.length (by rw [List.take_length]) (Less.refl l)
theorem Less.trans {l m k : List Deed} (h : Less l m) : Less m k → Less l k := by
  induction h generalizing k with
  | nil => exact id
  | drop a _ ih => intro h2; exact .drop a (ih h2)
  | keep a a' j e _ ih =>
    intro h2
    cases h2 with
    | drop _ h3 => exact .drop a (ih h3)
    | keep _ a2 j2 e2 h3 =>
      refine .keep a a2 (min j2 j) ?_ (ih h3)
      rw [e2, e]
      simp only
      rw [List.take_take]
theorem less_keeps : ∀ (l : List Deed) (ks : List Bool), Less l (keeps l ks)
  | [], ks => by rw [keeps_nil]; exact .nil
  | a :: l, [] => by
    have := less_keeps l []
    rw [keeps_none] at this ⊢
    exact .drop a this
  | a :: l, k :: ks => by
    simp only [keeps]
    split
    · exact .keep a a a.b.length (by rw [List.take_length]) (less_keeps l ks)
    · exact .drop a (less_keeps l ks)
theorem Less.front (m : List Deed) {l k : List Deed} (h : Less l k) : Less (m ++ l) (m ++ k) := by
  induction m with
  | nil => exact h
  | cons a m ih => exact .keep a a a.b.length (by rw [List.take_length]) ih
theorem less_torn (l : List Deed) (tear : Int) : Less l (torn l tear) := by
  unfold torn
  cases hl : l.getLast? with
  | none =>
    rw [List.getLast?_eq_none_iff] at hl
    rw [hl]
    exact .nil
  | some a =>
    simp only
    split
    · obtain ⟨m, rfl⟩ := List.getLast?_eq_some_iff.1 hl
      rw [List.dropLast_concat]
      exact Less.front m (.keep a _ _ rfl .nil)
    · exact Less.refl l
theorem less_torn_keeps (l : List Deed) (ks : List Bool) (tear : Int) : Less l (torn (keeps l ks) tear) := (less_keeps l ks).trans (less_torn _ tear)

theorem Grows.snoc_other {name s t : Bytes} {l : List Deed} (h : Grows name s l t) {a : Deed} (ha : a.name ≠ name) : Grows name s (l ++ [a]) t := by
  induction h with
  | nil s => exact .other a ha (.nil s)
  | other b hb _ ih => exact .other b hb ih
  | one b hb hk hat _ ih => exact .one b hb hk hat ih
theorem Grows.snoc_one {name s t : Bytes} {l : List Deed} (h : Grows name s l t) {a : Deed} (ha : a.name = name) (hk : a.kind = 0) (hat : a.at_ = t.length) : Grows name s (l ++ [a]) (t ++ a.b) := by
  induction h with
  | nil s => exact .one a ha hk hat (.nil _)
  | other b hb _ ih => exact .other b hb (ih hat)
  | one b hb hk' hat' _ ih => exact .one b hb hk' hat' (ih hat)
theorem grows_others {name s : Bytes} : ∀ {l : List Deed}, (∀ a ∈ l, a.name ≠ name) → Grows name s l s
  | [], _ => .nil s
  | a :: l, h => .other a (h a (by simp)) (grows_others fun b hb => h b (by simp [hb]))

/-- k is a beginning of s behind which there may be noughts. -/
structure Under (was k s : Bytes) : Prop where
  le : k.length ≤ s.length
  pre : was <+: k
  each : ∀ i x, k[i]? = some x → s[i]? = some x ∨ (x = 0 ∧ was.length ≤ i)
theorem Under.wider {was k s : Bytes} (h : Under was k s) (b : Bytes) : Under was k (s ++ b) :=
  ⟨by rw [List.length_append]; have := h.le; omega, h.pre, fun i x hx => by
    rcases h.each i x hx with h1 | h1
    · left
      have hi : i < s.length := (List.getElem?_eq_some_iff.1 h1).1
      rw [List.getElem?_append_left hi]
      exact h1
    · exact .inr h1⟩
theorem Under.over {was k s : Bytes} (h : Under was k s) (b : Bytes) (j : Nat) : Under was (overlay k s.length (b.take j)) (s ++ b) := by
  have hl := overlay_length k s.length (b.take j)
  have hle := h.le
  have hpl : (k ++ List.replicate (s.length + (b.take j).length - k.length) 0).length = s.length + (b.take j).length := by simp; omega
  have hov : overlay k s.length (b.take j) = k ++ (List.replicate (s.length - k.length) 0 ++ b.take j) := by
    unfold overlay
    rw [List.drop_eq_nil_of_le (by omega), List.append_nil, List.take_append, List.take_of_length_le hle, List.take_replicate, List.append_assoc]
    congr 3
    omega
  refine ⟨?_, ?_, fun i x hx => ?_⟩
  · rw [hl, List.length_append, List.length_take]
    omega
  · rw [hov]
    exact h.pre.trans (List.prefix_append _ _)
  · rw [hov] at hx
    by_cases h1 : i < k.length
    · rw [List.getElem?_append_left h1] at hx
      exact (h.wider b).each i x hx
    · rw [List.getElem?_append_right (by omega)] at hx
      by_cases h2 : i < s.length
      · rw [List.getElem?_append_left (by simp; omega), List.getElem?_replicate] at hx
        split at hx
        · injection hx with hx
          have := h.pre.length_le
          exact .inr ⟨hx.symm, by omega⟩
        · cases hx
      · rw [List.getElem?_append_right (by simp; omega)] at hx
        left
        rw [List.getElem?_append_right (by omega)]
        rw [List.getElem?_take] at hx
        split at hx
        · rw [← hx]
          congr 1
          simp
          omega
        · cases hx

theorem under_all {name was : Bytes} {s t : Bytes} {l : List Deed} (h : Grows name s l t) : ∀ {m : List Deed} {k : Bytes}, Less l m → Under was k s → ∃ k', effs m name (some k) = some k' ∧ Under was k' t := by
  induction h with
  | nil s =>
    intro m k hm hk
    cases hm
    exact ⟨k, rfl, hk⟩
  | other a ha _ ih =>
    intro m k hm hk
    cases hm with
    | drop _ h1 => exact ih h1 hk
    | keep _ a' j e h1 =>
      rw [effs_cons, if_neg (by rw [e]; exact fun h => ha h.symm)]
      exact ih h1 hk
  | one a ha hkd hat _ ih =>
    intro m k hm hk
    cases hm with
    | drop _ h1 => exact ih h1 (hk.wider _)
    | keep _ a' j e h1 =>
      rw [effs_cons, if_pos (by rw [e]; exact ha.symm)]
      have he : eff a' (some k) = some (overlay k a.at_ (a.b.take j)) := by
        rw [e]
        unfold eff
        rw [if_neg (by simp [hkd]), if_neg (by simp [hkd])]
        rfl
      rw [he]
      refine ih h1 ?_
      rw [hat]
      exact hk.over _ _

/-- what always holds between the sync and the crash. -/
structure BeginAt (name was : Bytes) (d : Dk) (s : Bytes) : Prop where
  ok : d.Ok
  last : Dict.get d.lasting name = some was
  seen : Dict.get d.seen name = some s
  grows : Grows name was d.pending s

theorem begin_at {d : Dk} (h : d.Ok) {name : Bytes} (hs : (d.sync name).2 = 0) : ∃ was, (d.sync name).1.read name = (was, 0) ∧ BeginAt name was (d.sync name).1 was := by
  have h0 : d.look name = 0 := by rw [← sync_err]; exact hs
  obtain ⟨x, hx⟩ := (look_ok h).1 h0
  have hok := h.sync name
  have hseen : Dict.get (d.sync name).1.seen name = some x := by rw [sync_seen]; exact hx
  refine ⟨x, by rw [hok.read_of, hseen], hok, ?_, hseen, ?_⟩
  · rw [sync_lasting h name h0, if_pos rfl, hx]
  · refine grows_others fun a ha => ?_
    unfold Dk.sync at ha
    rw [if_pos h0] at ha
    have ha' : a ∈ d.pending.filter fun a => !(a.name == name) := ha
    simpa using (List.mem_filter.1 ha').2
theorem BeginAt.act_other {name was s : Bytes} {d : Dk} (h : BeginAt name was d s) {a : Deed} (hok : (d.act a).Ok) (ha : a.name ≠ name) : BeginAt name was (d.act a) s :=
  ⟨hok, h.last, by rw [Disk.act_other d a (fun e => ha e.symm)]; exact h.seen, h.grows.snoc_other ha⟩
theorem BeginAt.write {name was s : Bytes} {d : Dk} (h : BeginAt name was d s) (n b : Bytes) : ∃ t, BeginAt name was (d.write n b).1 t := by
  have hok := h.ok.write n b
  rcases write_cases d n b with ⟨e, -, he⟩ | he
  · rw [he]
    exact ⟨s, h⟩
  · rw [he] at hok ⊢
    by_cases e : n = name
    · subst e
      rw [h.seen] at hok ⊢
      refine ⟨s ++ b, hok, h.last, ?_, h.grows.snoc_one rfl rfl rfl⟩
      have := act_write_seen d n b n
      rw [if_pos rfl, h.seen] at this
      exact this
    · exact ⟨s, h.act_other hok e⟩
theorem BeginAt.call {name was s : Bytes} {d : Dk} (h : BeginAt name was d s) (k : Do) (h5 : k.o8 < 5) (hn : k.name = name → k.o8 ≠ 3 ∧ k.o8 ≠ 4) : ∃ t, BeginAt name was (d.call k).1 t := by
  have hok := h.ok.call k
  unfold Dk.call at hok ⊢
  split
  · rename_i h3
    rw [if_pos h3] at hok
    have hne : k.name ≠ name := fun e => (hn e).1 h3
    rcases cut_cases d k.name k.n with ⟨e, -, he⟩ | ⟨a, -, ha, he⟩
    · rw [he]; exact ⟨s, h⟩
    · rw [he] at hok ⊢; exact ⟨s, h.act_other hok (by rw [ha]; exact hne)⟩
  · rename_i h3
    rw [if_neg h3] at hok
    split
    · rename_i h4
      rw [if_pos h4] at hok
      have hne : k.name ≠ name := fun e => (hn e).2 h4
      rcases drop_cases d k.name with ⟨e, -, he⟩ | ⟨a, -, ha, he⟩
      · rw [he]; exact ⟨s, h⟩
      · rw [he] at hok ⊢; exact ⟨s, h.act_other hok (by rw [ha]; exact hne)⟩
    · rw [if_neg (by omega), if_neg (by omega), if_neg (by omega)]
      exact h.write _ _
theorem BeginAt.seen_read {name was s : Bytes} {d : Dk} (h : BeginAt name was d s) : d.read name = (s, 0) := by rw [h.ok.read_of, h.seen]
theorem BeginAt.crash {name was s : Bytes} {d : Dk} (h : BeginAt name was d s) (keep : List Bool) (tear : Int) : ∃ now, (d.crash keep tear).read name = (now, 0) ∧ Under was now s := by
  have h0 : Under was was was := ⟨Nat.le_refl _, List.prefix_refl _, fun _ _ h => .inl h⟩
  obtain ⟨now, h1, h2⟩ := under_all h.grows (less_torn_keeps d.pending keep tear) h0
  refine ⟨now, ?_, h2⟩
  rw [(h.ok.crash keep tear).read_of]
  have hg : Dict.get (d.crash keep tear).seen name = some now := by
    show Dict.get ((torn (keeps d.pending keep) tear).foldl Files.does d.lasting) name = _
    rw [get_dones, h.last]
    exact h1
  rw [hg]
end Go.Proofs.YtdbhccehbjhbpaaGreatDoor.Disk

/- disk: how many files and acts there can be. No program. -/
namespace Go.Proofs.YtdbhccehbjhbpaaGreatDoor.Disk

structure Dk.Small (N : Nat) (d : Dk) : Prop where
  seen : d.seen.length ≤ N
  rest : d.lasting.length + d.pending.length ≤ N
theorem del_len {α : Type} (f : Dict α) (n : Bytes) : (Dict.del f n).length ≤ f.length := List.length_filter_le _ _
theorem put_len {α : Type} (f : Dict α) (n : Bytes) (x : α) : (Dict.put f n x).length ≤ f.length + 1 := by
  unfold Dict.put
  rw [List.length_cons]
  have := del_len f n
  omega
theorem does_len (f : Files) (a : Deed) : (Files.does f a).length ≤ f.length + 1 := by
  unfold Files.does
  split
  · exact Nat.le_succ_of_le (del_len _ _)
  split
  · split
    · omega
    · exact put_len _ _ _
  · exact put_len _ _ _
theorem dones_len (l : List Deed) : ∀ f : Files, (l.foldl Files.does f).length ≤ f.length + l.length := by
  induction l with
  | nil => intro f; exact Nat.le_refl _
  | cons a l ih =>
    intro f
    have h1 := ih (Files.does f a)
    have h2 := does_len f a
    rw [List.foldl_cons, List.length_cons]
    omega
theorem keeps_len : ∀ (l : List Deed) (ks : List Bool), (keeps l ks).length ≤ l.length
  | [], ks => by cases ks <;> simp [keeps]
  | a :: l, [] => by simp [keeps]
  | a :: l, k :: ks => by
    have := keeps_len l ks
    simp only [keeps]
    split <;> simp <;> omega
theorem torn_len (l : List Deed) (tear : Int) : (torn l tear).length ≤ l.length := by
  unfold torn
  cases hl : l.getLast? with
  | none => simp
  | some a =>
    simp only
    split
    · obtain ⟨m, rfl⟩ := List.getLast?_eq_some_iff.1 hl
      simp
    · exact Nat.le_refl _
section
variable {d : Dk} {N : Nat}
theorem Dk.Small.act (h : d.Small N) (a : Deed) : (d.act a).Small (N + 1) := by
  have h1 := does_len d.seen a
  have h2 := h.seen
  have h3 := h.rest
  refine ⟨?_, ?_⟩
  · show (Files.does d.seen a).length ≤ _
    omega
  · show d.lasting.length + (d.pending ++ [a]).length ≤ _
    simp
    omega
theorem Dk.Small.more (h : d.Small N) {M : Nat} (hM : N ≤ M) : d.Small M := ⟨Nat.le_trans h.seen hM, Nat.le_trans h.rest hM⟩
theorem Dk.Small.settle (h : d.Small N) (q : Deed → Bool) : (d.settle q).Small N := by
  refine ⟨h.seen, ?_⟩
  have h1 := dones_len (d.pending.filter q) d.lasting
  have h2 : (d.pending.filter q).length + (d.pending.filter fun a => !q a).length = d.pending.length := by
    generalize d.pending = l
    induction l with
    | nil => rfl
    | cons a l ih =>
      rw [List.filter_cons, List.filter_cons]
      cases q a <;> simp <;> omega
  have h3 := h.rest
  show ((d.pending.filter q).foldl Files.does d.lasting).length + (d.pending.filter fun a => !q a).length ≤ N
  omega
theorem Dk.Small.rested (h : d.Small N) : d.rest.Small N := ⟨by have := h.rest; show d.lasting.length ≤ N; omega, h.rest⟩
theorem Dk.Small.write (h : d.Small N) (n b : Bytes) : (d.write n b).1.Small (N + 1) := by
  rcases write_cases d n b with ⟨e, -, he⟩ | he
  · rw [he]; exact h.more (by omega)
  · rw [he]; exact h.act _
theorem Dk.Small.cut (h : d.Small N) (n : Bytes) (i : Int) : (d.cut n i).1.Small (N + 1) := by
  rcases cut_cases d n i with ⟨e, -, he⟩ | ⟨a, -, -, he⟩
  · rw [he]; exact h.more (by omega)
  · rw [he]; exact h.act _
theorem Dk.Small.drop (h : d.Small N) (n : Bytes) : (d.drop n).1.Small (N + 1) := by
  rcases drop_cases d n with ⟨e, -, he⟩ | ⟨a, -, -, he⟩
  · rw [he]; exact h.more (by omega)
  · rw [he]; exact h.act _
theorem Dk.Small.sync (h : d.Small N) (n : Bytes) : (d.sync n).1.Small (N + 1) := by
  unfold Dk.sync
  split
  · exact ⟨Nat.le_succ_of_le (h.settle fun a => a.name == n).seen, Nat.le_succ_of_le (h.settle fun a => a.name == n).rest⟩
  · exact h.more (by omega)
theorem Dk.Small.flush (h : d.Small N) : d.flush.Small N := (h.settle _).rested
theorem Dk.Small.crash (h : d.Small N) (keep : List Bool) (tear : Int) : (d.crash keep tear).Small N := by
  refine Dk.Small.rested (d := { d with lasting := (torn (keeps d.pending keep) tear).foldl Files.does d.lasting, pending := [] }) ⟨h.seen, ?_⟩
  have h1 := dones_len (torn (keeps d.pending keep) tear) d.lasting
  have h2 := torn_len (keeps d.pending keep) tear
  have h3 := keeps_len d.pending keep
  have h4 := h.rest
  show ((torn (keeps d.pending keep) tear).foldl Files.does d.lasting).length + 0 ≤ N
  omega
theorem Dk.Small.call (h : d.Small N) (k : Do) : (d.call k).1.Small (N + 1) := by
  unfold Dk.call
  split
  · exact h.cut _ _
  split
  · exact h.drop _
  split
  · exact h.sync _
  split
  · exact h.flush.more (by omega)
  split
  · exact (h.crash _ _).more (by omega)
  · exact h.write _ _
end
theorem small_empty (n : Nat) : (Dk.empty n).Small 0 := ⟨by simp [Dk.empty], by simp [Dk.empty]⟩
theorem calls_small {d : Dk} {N : Nat} (h : d.Small N) : ∀ l : List Do, (d.calls l).Small (N + l.length) := by
  intro l
  induction l generalizing d N with
  | nil => exact h
  | cons k l ih =>
    have := ih (h.call k)
    rw [List.length_cons]
    exact this.more (by omega)
theorem list_of_alike {d e : Dk} (hd : d.Ok) (he : e.Ok) (h : Alike d e) (hs : ∀ {l m : List Bytes}, l.Perm m → l.mergeSort leB = m.mergeSort leB) : d.list = e.list := hs ((h.perm hd he).map _)
theorem list_mem {d : Dk} (hd : d.Ok) {n : Bytes} (h : n ∈ d.list) : ∃ x, Dict.get d.seen n = some x := by
  unfold Dk.list at h
  rw [List.mem_mergeSort] at h
  obtain ⟨q, hq, rfl⟩ := List.mem_map.1 h
  exact ⟨q.2, get_of_mem hd.seenOk hq⟩
theorem mem_list {d : Dk} {n x : Bytes} (h : Dict.get d.seen n = some x) : n ∈ d.list := by
  unfold Dk.list
  rw [List.mem_mergeSort]
  exact List.mem_map.2 ⟨(n, x), get_mem h, rfl⟩
theorem list_length (d : Dk) : d.list.length = d.seen.length := by unfold Dk.list; rw [List.length_mergeSort]; simp
end Go.Proofs.YtdbhccehbjhbpaaGreatDoor.Disk

/- seglog: the plain wire: numbers and frames as bytes; the records of a segment. No program. -/
namespace Go.Proofs.YtdbhccehbjhbpaaGreatDoor.Slog

abbrev Bytes := List UInt8

/-! ### check sums, frames -/
def crcBit (c : Nat) : Nat := if c % 2 = 1 then (c / 2) ^^^ 2197175160 else c / 2
def crcByte (c : Nat) (x : UInt8) : Nat := crcBit (crcBit (crcBit (crcBit (crcBit (crcBit (crcBit (crcBit (c ^^^ x.toNat))))))))
def crc (l : Bytes) : Nat := 4294967295 - l.foldl crcByte 4294967295
def word4 (x : Nat) : Bytes := [UInt8.ofNat (x / 16777216), UInt8.ofNat (x / 65536), UInt8.ofNat (x / 256), UInt8.ofNat x]
theorem word4_length (x : Nat) : (word4 x).length = 4 := rfl
def head3 (n : Nat) : Bytes := [UInt8.ofNat (n / 65536), UInt8.ofNat (n / 256), UInt8.ofNat n]
def frame (p : Bytes) : Bytes := head3 p.length ++ p ++ word4 (crc (head3 p.length ++ p))
theorem frame_length (p : Bytes) : (frame p).length = p.length + 7 := by unfold frame head3 word4; simp
def len3 (b : Bytes) : Nat := (b[0]?.getD 0).toNat * 65536 + (b[1]?.getD 0).toNat * 256 + (b[2]?.getD 0).toNat
def unframe (b : Bytes) : Option (Bytes × Nat) :=
  if b.length < 3 then none
  else if 65536 < len3 b then none
  else if b.length < len3 b + 7 then none
  else if word4 (crc (b.take (len3 b + 3))) = (b.drop (len3 b + 3)).take 4 then some ((b.drop 3).take (len3 b), len3 b + 7) else none

theorem u8_ofNat (n : Nat) : (UInt8.ofNat n).toNat = n % 256 := by simp
theorem len3_frame (p t : Bytes) (h : p.length ≤ 65536) : len3 (frame p ++ t) = p.length := by
  unfold len3 frame head3
  simp only [List.cons_append, List.nil_append, List.getElem?_cons_zero, List.getElem?_cons_succ, Option.getD_some, u8_ofNat]
  omega
theorem frame_front (p t : Bytes) : frame p ++ t = head3 p.length ++ (p ++ (word4 (crc (head3 p.length ++ p)) ++ t)) := by
  unfold frame
  simp only [List.append_assoc]
theorem unframe_frame (p t : Bytes) (h : p.length ≤ 65536) : unframe (frame p ++ t) = some (p, p.length + 7) := by
  unfold unframe
  have hl := len3_frame p t h
  have hlen : (frame p ++ t).length = p.length + 7 + t.length := by rw [List.length_append, frame_length]
  rw [hl, if_neg (by omega), if_neg (by omega), if_neg (by omega)]
  have e1 : (frame p ++ t).take (p.length + 3) = head3 p.length ++ p := by
    rw [frame_front, ← List.append_assoc]
    exact List.take_left' (by rw [List.length_append, show (head3 p.length).length = 3 from rfl]; omega)
  have e2 : (frame p ++ t).drop (p.length + 3) = word4 (crc (head3 p.length ++ p)) ++ t := by
    rw [frame_front, ← List.append_assoc]
    exact List.drop_left' (by rw [List.length_append, show (head3 p.length).length = 3 from rfl]; omega)
  have e3 : ((frame p ++ t).drop 3).take p.length = p := by
    rw [frame_front]
    have : (head3 p.length ++ (p ++ (word4 (crc (head3 p.length ++ p)) ++ t))).drop 3 = p ++ (word4 (crc (head3 p.length ++ p)) ++ t) := List.drop_left' rfl
    rw [this]
    exact List.take_left' rfl
  have e4 : ((frame p ++ t).drop (p.length + 3)).take 4 = word4 (crc (head3 p.length ++ p)) := by
    rw [e2]
    exact List.take_left' rfl
  rw [e1, e4, if_pos rfl, e3]
/-- the beginning of a frame is none. -/
theorem unframe_short (p : Bytes) (h : p.length ≤ 65536) (k : Nat) (hk : k < p.length + 7) : unframe ((frame p).take k) = none := by
  unfold unframe
  have hlen : ((frame p).take k).length = k := by rw [List.length_take, frame_length]; omega
  rw [hlen]
  by_cases h3 : k < 3
  · rw [if_pos h3]
  · have hl : len3 ((frame p).take k) = p.length := by
      have h0 := len3_frame p [] h
      rw [List.append_nil] at h0
      unfold len3 at h0 ⊢
      rw [List.getElem?_take_of_lt (by omega), List.getElem?_take_of_lt (by omega), List.getElem?_take_of_lt (by omega)]
      exact h0
    rw [if_neg h3, hl, if_neg (by omega), if_pos (by omega)]
theorem unframe_nil : unframe [] = none := rfl
theorem crc_three : crc [0, 0, 0] = 1617208186 := by kernel_rfl
theorem crc_zero : word4 (crc [0, 0, 0]) ≠ [0, 0, 0, 0] := by
  rw [crc_three]
  decide
/-- noughts are no frame. -/
theorem unframe_zeros (t : Bytes) : unframe (List.replicate 7 0 ++ t) = none := by
  unfold unframe
  have e : (List.replicate 7 (0 : UInt8) ++ t) = 0 :: 0 :: 0 :: 0 :: 0 :: 0 :: 0 :: t := by simp [List.replicate]
  rw [e]
  have hl : len3 (0 :: 0 :: 0 :: 0 :: 0 :: 0 :: 0 :: t) = 0 := by simp [len3]
  rw [hl, if_neg (by simp), if_neg (by omega), if_neg (by simp)]
  rw [if_neg]
  intro h
  exact crc_zero h
theorem unframe_few (k : Nat) (hk : k < 7) : unframe (List.replicate k 0) = none := by
  match k with
  | 0 => rfl
  | 1 => rfl
  | 2 => rfl
  | 3 => simp [unframe, len3, List.replicate]
  | 4 => simp [unframe, len3, List.replicate]
  | 5 => simp [unframe, len3, List.replicate]
  | 6 => simp [unframe, len3, List.replicate]
  | k + 7 => omega

/-! ### numbers -/
/-- the k lowest bytes of a number, the highest first. -/
def bytesOf : Nat → Nat → Bytes
  | 0, _ => []
  | k + 1, x => UInt8.ofNat (x / 256 ^ k) :: bytesOf k x
def width (x : Nat) : Nat := if x < 256 then 1 else if x < 65536 then 2 else if x < 16777216 then 3 else if x < 4294967296 then 4 else if x < 1099511627776 then 5 else if x < 281474976710656 then 6 else if x < 72057594037927936 then 7 else 8
def numB (x : Nat) : Bytes := if x ≤ 247 then [UInt8.ofNat x] else UInt8.ofNat (247 + width x) :: bytesOf (width x) x
/-- the number with which bytes begin, and how many bytes it has; none: there is none in its one form. -/
def num? (b : Bytes) : Option (Nat × Nat) :=
  match b with
  | [] => none
  | c :: r =>
    if c.toNat ≤ 247 then some (c.toNat, 1)
    else if r.length < c.toNat - 247 then none
    else
      let x := (r.take (c.toNat - 247)).foldl (fun x d => x * 256 + d.toNat) 0
      if x ≤ 247 ∨ x / 256 ^ (c.toNat - 247 - 1) = 0 ∨ 9223372036854775808 ≤ x then none else some (x, c.toNat - 247 + 1)
theorem num_small {x : Nat} (h : x ≤ 247) (t : Bytes) : num? (numB x ++ t) = some (x, 1) := by
  unfold numB num?
  rw [if_pos h]
  simp only [List.cons_append, List.nil_append]
  have : (UInt8.ofNat x).toNat = x := by rw [u8_ofNat]; omega
  rw [this, if_pos h]
theorem numB_small {x : Nat} (h : x ≤ 247) : numB x = [UInt8.ofNat x] := by unfold numB; rw [if_pos h]

/-! ### the records of a segment -/
def recordsF : Nat → Bytes → Nat → List Bytes × Nat
  | 0, _, _ => ([], 0)
  | fuel + 1, b, k => match unframe b with
    | none => ([], 0)
    | some (p, n) => match num? p with
      | none => ([], 0)
      | some (v, u) => if v ≠ k ∨ v = 9223372036854775807 then ([], 0) else
        let r := recordsF fuel (b.drop n) (k + 1)
        (p.drop u :: r.1, n + r.2)
def records (b : Bytes) (k : Nat) : List Bytes × Nat := recordsF (b.length + 1) b k
/-- a record with its number, as a frame. -/
def framed (k : Nat) (r : Bytes) : Bytes := frame (numB k ++ r)
def framesOf : Nat → List Bytes → Bytes
  | _, [] => []
  | k, r :: l => framed k r ++ framesOf (k + 1) l
theorem framesOf_cons (k : Nat) (r : Bytes) (l : List Bytes) : framesOf k (r :: l) = framed k r ++ framesOf (k + 1) l := rfl
theorem framesOf_append (k : Nat) (l m : List Bytes) : framesOf k (l ++ m) = framesOf k l ++ framesOf (k + l.length) m := by
  induction l generalizing k with
  | nil => rfl
  | cons r l ih =>
    rw [List.cons_append, framesOf_cons, framesOf_cons, ih, List.append_assoc, List.length_cons, show k + 1 + l.length = k + (l.length + 1) by omega]
theorem framesOf_snoc (k : Nat) (l : List Bytes) (r : Bytes) : framesOf k (l ++ [r]) = framesOf k l ++ framed (k + l.length) r := by
  rw [framesOf_append]
  unfold framesOf
  rw [show framesOf (k + l.length + 1) [] = [] from rfl, List.append_nil]
/-- short enough to be framed, each with a number of one byte. -/
def Small (k : Nat) (l : List Bytes) : Prop := k + l.length ≤ 248 ∧ ∀ r ∈ l, r.length ≤ 65535
theorem framed_length {k : Nat} (hk : k ≤ 247) (r : Bytes) : (framed k r).length = r.length + 8 := by
  unfold framed
  rw [frame_length, List.length_append, numB_small hk]
  simp
  omega
theorem recordsF_frames (l : List Bytes) : ∀ (k fuel : Nat) (z : Bytes), Small k l → unframe z = none → l.length < fuel → recordsF fuel (framesOf k l ++ z) k = (l, (framesOf k l).length) := by
  induction l with
  | nil =>
    intro k fuel z _ hz hf
    match fuel with
    | fuel + 1 =>
      unfold recordsF
      rw [show framesOf k [] ++ z = z from rfl, hz]
      rfl
  | cons r l ih =>
    intro k fuel z hs hz hf
    match fuel with
    | fuel + 1 =>
      have hk : k ≤ 247 := by have := hs.1; simp at this; omega
      have hr : r.length ≤ 65535 := hs.2 r (by simp)
      unfold recordsF
      have e : framesOf k (r :: l) ++ z = frame (numB k ++ r) ++ (framesOf (k + 1) l ++ z) := by
        rw [framesOf_cons, List.append_assoc]
        rfl
      have hpl : (numB k ++ r).length = r.length + 1 := by rw [List.length_append, numB_small hk]; simp; omega
      rw [e, unframe_frame _ _ (by omega)]
      simp only
      rw [num_small hk]
      simp only
      rw [if_neg (by omega)]
      have e2 : (frame (numB k ++ r) ++ (framesOf (k + 1) l ++ z)).drop ((numB k ++ r).length + 7) = framesOf (k + 1) l ++ z := List.drop_left' (frame_length _)
      have e3 : (numB k ++ r).drop 1 = r := by rw [numB_small hk]; rfl
      rw [e2, ih (k + 1) fuel z ⟨by have := hs.1; simp at this; omega, fun x hx => hs.2 x (by simp [hx])⟩ hz (by simp at hf; omega), e3]
      simp only [framesOf, framed, List.length_append, frame_length]
theorem framesOf_ge (l : List Bytes) (k : Nat) : l.length ≤ (framesOf k l).length := by
  induction l generalizing k with
  | nil => exact Nat.zero_le _
  | cons r l ih =>
    unfold framesOf framed
    rw [List.length_append, frame_length, List.length_cons]
    have := ih (k + 1)
    omega
/-- what is read of records' frames, whatever no frame stands behind. -/
theorem records_frames {k : Nat} {l : List Bytes} {z : Bytes} (hs : Small k l) (hz : unframe z = none) : records (framesOf k l ++ z) k = (l, (framesOf k l).length) :=
  recordsF_frames l k _ z hs hz (by have := framesOf_ge l k; rw [List.length_append]; omega)
end Go.Proofs.YtdbhccehbjhbpaaGreatDoor.Slog

/- seglog: what a crash leaves of a segment to which only records' frames were written. No program. -/
namespace Go.Proofs.YtdbhccehbjhbpaaGreatDoor.Slog
open Disk (Deed overlay eff effs effs_cons effs_nil keeps torn overlay_length)

theorem overlay_beyond {c : Bytes} {i : Nat} (h : c.length ≤ i) (b : Bytes) : overlay c i b = c ++ List.replicate (i - c.length) 0 ++ b := by
  unfold overlay
  have e : c ++ List.replicate (i + b.length - c.length) (0 : UInt8) = (c ++ List.replicate (i - c.length) 0) ++ List.replicate b.length 0 := by
    rw [List.append_assoc, List.replicate_append_replicate]
    congr 2
    omega
  have hl : (c ++ List.replicate (i - c.length) (0 : UInt8)).length = i := by rw [List.length_append, List.length_replicate]; omega
  rw [e, List.take_left' hl, List.drop_eq_nil_of_le (by rw [List.length_append, hl, List.length_replicate]; exact Nat.le_refl _), List.append_nil]
theorem overlay_end (c b : Bytes) : overlay c c.length b = c ++ b := by
  rw [overlay_beyond (Nat.le_refl _)]
  simp

/-- records' frames, each written behind the one ahead. -/
def writes (f : Bytes) : Nat → Nat → List Bytes → List Deed
  | _, _, [] => []
  | off, k, r :: l => ⟨0, f, off, framed k r⟩ :: writes f (off + (framed k r).length) (k + 1) l
theorem writes_append (f : Bytes) (l m : List Bytes) : ∀ off k, writes f off k (l ++ m) = writes f off k l ++ writes f (off + (framesOf k l).length) (k + l.length) m := by
  induction l with
  | nil => intro off k; simp [writes, framesOf]
  | cons r l ih =>
    intro off k
    rw [List.cons_append]
    simp only [writes, List.cons_append, List.cons.injEq, true_and]
    rw [ih, framesOf_cons, List.length_append, List.length_cons, Nat.add_assoc, show k + 1 + l.length = k + (l.length + 1) by omega]
theorem writes_name {f : Bytes} {l : List Bytes} : ∀ {off k : Nat} {a : Deed}, a ∈ writes f off k l → a.name = f ∧ a.kind = 0 := by
  induction l with
  | nil => intro off k a h; cases h
  | cons r l ih =>
    intro off k a h
    simp only [writes, List.mem_cons] at h
    rcases h with rfl | h
    · exact ⟨rfl, rfl⟩
    · exact ih h

theorem torn_one (a : Deed) (hk : a.kind = 0) (tear : Int) : ∃ q, torn [a] tear = [{ a with b := a.b.take q }] := by
  unfold torn
  simp only [List.getLast?_singleton, hk, if_true, List.dropLast_singleton, List.nil_append]
  exact ⟨_, rfl⟩
theorem torn_cons (a : Deed) {l : List Deed} (hl : l ≠ []) (tear : Int) : torn (a :: l) tear = a :: torn l tear := by
  obtain ⟨b, m, rfl⟩ := List.exists_cons_of_ne_nil hl
  unfold torn
  rw [List.getLast?_cons_cons]
  cases h : (b :: m).getLast? with
  | none => simp at h
  | some x =>
    simp only
    split
    · rw [List.dropLast_cons_of_ne_nil (by simp), List.cons_append]
    · rfl
theorem torn_nil (tear : Int) : torn [] tear = [] := rfl

/-- a segment while kept writes are laid, once one of them was lost: with a hole. -/
def Holed (k0 : Nat) (D : List Bytes) (off : Nat) (c : Bytes) : Prop := c = framesOf k0 D ∧ c.length + 7 ≤ off ∨ ∃ y, c = framesOf k0 D ++ (List.replicate 7 0 ++ y) ∧ c.length ≤ off
/-- what is read of bytes: these records, and no frame behind them. -/
def Reads (k0 : Nat) (D : List Bytes) (c : Bytes) : Prop := ∃ z, c = framesOf k0 D ++ z ∧ unframe z = none
section
variable {k0 off k : Nat} {D : List Bytes} {c r b : Bytes}
theorem Holed.reads (h : Holed k0 D off c) : Reads k0 D c := by
  rcases h with ⟨h, -⟩ | ⟨y, h, -⟩
  · exact ⟨[], by rw [List.append_nil]; exact h, unframe_nil⟩
  · exact ⟨_, h, unframe_zeros y⟩
theorem Holed.skip (h : Holed k0 D off c) (n : Nat) : Holed k0 D (off + n) c := by
  rcases h with ⟨h, e⟩ | ⟨y, h, e⟩
  · exact .inl ⟨h, by omega⟩
  · exact .inr ⟨y, h, by omega⟩
/-- bytes are laid where there is a hole. -/
theorem Holed.laid (h : Holed k0 D off c) (b : Bytes) : Holed k0 D (off + b.length) (overlay c off b) := by
  rcases h with ⟨h, e⟩ | ⟨y, h, e⟩
  · refine .inr ⟨List.replicate (off - c.length - 7) 0 ++ b, ?_, ?_⟩
    · rw [overlay_beyond (by omega), ← h, ← List.append_assoc (List.replicate 7 0), List.replicate_append_replicate, show 7 + (off - c.length - 7) = off - c.length by omega, List.append_assoc]
    · rw [overlay_length]; omega
  · refine .inr ⟨y ++ (List.replicate (off - c.length) 0 ++ b), ?_, ?_⟩
    · rw [overlay_beyond e, ← List.append_assoc (List.replicate 7 0), ← List.append_assoc (framesOf k0 D), ← h, List.append_assoc]
    · rw [overlay_length]; omega
end
theorem eff_write (f : Bytes) (off : Nat) (b : Bytes) (o : Option Bytes) : eff ⟨0, f, off, b⟩ o = some (overlay (o.getD []) off b) := by
  unfold eff
  rw [if_neg (by simp), if_neg (by simp)]
theorem keeps_nil (ks : List Bool) : keeps [] ks = [] := by cases ks <;> rfl
theorem keeps_none (l : List Deed) : keeps l [] = [] := by cases l <;> rfl

theorem crash_hole (f : Bytes) (tear : Int) (k0 : Nat) (D : List Bytes) : ∀ (l : List Bytes) (ks : List Bool) (k off : Nat) (o : Option Bytes), Holed k0 D off (o.getD []) →
    Reads k0 D ((effs (torn (keeps (writes f off k l) ks) tear) f o).getD []) ∧ (effs (torn (keeps (writes f off k l) ks) tear) f o = none → o = none) := by
  intro l
  induction l with
  | nil =>
    intro ks k off o h
    rw [show writes f off k [] = [] from rfl, keeps_nil, torn_nil, effs_nil]
    exact ⟨h.reads, id⟩
  | cons r l ih =>
    intro ks k off o h
    rw [show writes f off k (r :: l) = ⟨0, f, off, framed k r⟩ :: writes f (off + (framed k r).length) (k + 1) l from rfl]
    cases ks with
    | nil =>
      rw [keeps_none, torn_nil, effs_nil]
      exact ⟨h.reads, id⟩
    | cons kp ks =>
      cases kp with
      | false =>
        rw [show keeps (⟨0, f, off, framed k r⟩ :: writes f (off + (framed k r).length) (k + 1) l) (false :: ks) = keeps (writes f (off + (framed k r).length) (k + 1) l) ks from by rw [keeps]; rfl]
        exact ih ks (k + 1) _ o (h.skip _)
      | true =>
        rw [show keeps (⟨0, f, off, framed k r⟩ :: writes f (off + (framed k r).length) (k + 1) l) (true :: ks) = ⟨0, f, off, framed k r⟩ :: keeps (writes f (off + (framed k r).length) (k + 1) l) ks from by rw [keeps]; rfl]
        by_cases hr : keeps (writes f (off + (framed k r).length) (k + 1) l) ks = []
        · rw [hr]
          obtain ⟨q, hq⟩ := torn_one ⟨0, f, off, framed k r⟩ rfl tear
          rw [hq, effs_cons, if_pos rfl, effs_nil, eff_write]
          exact ⟨(h.laid _).reads, fun h => by cases h⟩
        · rw [torn_cons _ hr, effs_cons, if_pos rfl, eff_write]
          have h2 := ih ks (k + 1) (off + (framed k r).length) (some (overlay (o.getD []) off (framed k r))) (h.laid _)
          exact ⟨h2.1, fun e => by have := h2.2 e; cases this⟩

/-- WHAT A CRASH LEAVES: the records up to some number, and no frame behind them. -/
theorem crash_reads (f : Bytes) (tear : Int) (k0 : Nat) : ∀ (l : List Bytes) (ks : List Bool) (k off : Nat) (D : List Bytes) (o : Option Bytes), o.getD [] = framesOf k0 D → off = (framesOf k0 D).length → k = k0 + D.length → Small k l →
    ∃ t, t ≤ l.length ∧ Reads k0 (D ++ l.take t) ((effs (torn (keeps (writes f off k l) ks) tear) f o).getD []) ∧ (effs (torn (keeps (writes f off k l) ks) tear) f o = none → o = none ∧ t = 0) := by
  intro l
  induction l with
  | nil =>
    intro ks k off D o ho _ _ _
    rw [show writes f off k [] = [] from rfl, keeps_nil, torn_nil, effs_nil]
    exact ⟨0, Nat.le_refl _, ⟨[], by simpa using ho, unframe_nil⟩, fun h => ⟨h, rfl⟩⟩
  | cons r l ih =>
    intro ks k off D o ho hoff hk hsm
    have hk247 : k ≤ 247 := by have := hsm.1; simp at this; omega
    have hfl := framed_length hk247 r
    have hsm2 : Small (k + 1) l := ⟨by have := hsm.1; simp at this; omega, fun x hx => hsm.2 x (by simp [hx])⟩
    have hr : r.length ≤ 65535 := hsm.2 r (by simp)
    have hself : Reads k0 (D ++ (r :: l).take 0) (o.getD []) := ⟨[], by simpa using ho, unframe_nil⟩
    rw [show writes f off k (r :: l) = ⟨0, f, off, framed k r⟩ :: writes f (off + (framed k r).length) (k + 1) l from rfl]
    cases ks with
    | nil =>
      rw [keeps_none, torn_nil, effs_nil]
      exact ⟨0, Nat.zero_le _, hself, fun h => ⟨h, rfl⟩⟩
    | cons kp ks =>
      cases kp with
      | false =>
        rw [show keeps (⟨0, f, off, framed k r⟩ :: writes f (off + (framed k r).length) (k + 1) l) (false :: ks) = keeps (writes f (off + (framed k r).length) (k + 1) l) ks from by rw [keeps]; rfl]
        obtain ⟨h1, h2⟩ := crash_hole f tear k0 D l ks (k + 1) (off + (framed k r).length) o (.inl ⟨ho, by rw [ho]; omega⟩)
        exact ⟨0, Nat.zero_le _, by simpa using h1, fun h => ⟨h2 h, rfl⟩⟩
      | true =>
        rw [show keeps (⟨0, f, off, framed k r⟩ :: writes f (off + (framed k r).length) (k + 1) l) (true :: ks) = ⟨0, f, off, framed k r⟩ :: keeps (writes f (off + (framed k r).length) (k + 1) l) ks from by rw [keeps]; rfl]
        have hov : ∀ b, overlay (o.getD []) off b = framesOf k0 D ++ b := fun b => by rw [ho, hoff, overlay_end]
        have hsn : framesOf k0 D ++ framed k r = framesOf k0 (D ++ [r]) := by rw [framesOf_snoc, hk]
        by_cases hrs : keeps (writes f (off + (framed k r).length) (k + 1) l) ks = []
        · rw [hrs]
          obtain ⟨q, hq⟩ := torn_one ⟨0, f, off, framed k r⟩ rfl tear
          rw [hq, effs_cons, if_pos rfl, effs_nil, eff_write, Option.getD_some, hov]
          by_cases hql : (framed k r).length ≤ q
          · refine ⟨1, by simp, ⟨[], ?_, unframe_nil⟩, fun h => by cases h⟩
            rw [List.take_of_length_le hql, hsn, List.append_nil]
            rfl
          · refine ⟨0, Nat.zero_le _, ⟨(framed k r).take q, by simp, ?_⟩, fun h => by cases h⟩
            refine unframe_short _ ?_ q ?_
            · rw [List.length_append, numB_small hk247]; simp; omega
            · have : (framed k r).length = (numB k ++ r).length + 7 := frame_length _
              omega
        · rw [torn_cons _ hrs, effs_cons, if_pos rfl, eff_write, hov, hsn]
          obtain ⟨t, ht, h1, h2⟩ := ih ks (k + 1) (off + (framed k r).length) (D ++ [r]) (some (framesOf k0 (D ++ [r]))) rfl (by rw [← hsn, List.length_append, hoff]) (by rw [List.length_append, hk]; simp; omega) hsm2
          refine ⟨t + 1, by simp; omega, ?_, fun e => by have := (h2 e).1; cases this⟩
          rw [List.take_succ_cons]
          simpa using h1
end Go.Proofs.YtdbhccehbjhbpaaGreatDoor.Slog

/- seglog: names of segments; a log over a disk, plain: what holds between calls. No program. -/
namespace Go.Proofs.YtdbhccehbjhbpaaGreatDoor.Slog
open Disk (Dk Deed Files Dict may leB eff effs get_does get_put get_del)

/-! ### names -/
/-- a segment's file; for numbers below a thousand. -/
def nameB (n : Nat) : Bytes := [115, 101, 103, 46] ++ List.replicate 16 48 ++ [UInt8.ofNat (48 + n / 100), UInt8.ofNat (48 + n / 10 % 10), UInt8.ofNat (48 + n % 10)]
theorem nameB_length (n : Nat) : (nameB n).length = 23 := rfl
theorem may_name {n : Nat} (h : n < 1000) : may (nameB n) = true := by
  have h2 : ∀ a b c : Nat, a ≤ 9 → b ≤ 9 → c ≤ 9 → may ([115, 101, 103, 46] ++ List.replicate 16 48 ++ [UInt8.ofNat (48 + a), UInt8.ofNat (48 + b), UInt8.ofNat (48 + c)]) = true := by
    intro a b c ha hb hc
    unfold may Disk.okByte
    simp only [List.all_append, List.all_cons, List.all_nil, Disk.Bytes]
    have e : ∀ x : Nat, x ≤ 9 → (UInt8.ofNat (48 + x)).toNat = 48 + x := fun x hx => by rw [u8_ofNat]; omega
    rw [e a ha, e b hb, e c hc]
    simp
    omega
  exact h2 _ _ _ (by omega) (by omega) (by omega)
theorem name_inj {a b : Nat} (ha : a < 1000) (hb : b < 1000) (h : nameB a = nameB b) : a = b := by
  unfold nameB at h
  have h1 := List.append_cancel_left h
  simp only [List.cons.injEq, and_true] at h1
  obtain ⟨e1, e2, e3⟩ := h1
  have f1 := congrArg UInt8.toNat e1
  have f2 := congrArg UInt8.toNat e2
  have f3 := congrArg UInt8.toNat e3
  rw [u8_ofNat, u8_ofNat] at f1 f2 f3
  omega
theorem lt_of_heads (p : Bytes) {a b : Bytes} (h : a < b) : p ++ a < p ++ b := by
  induction p with
  | nil => exact h
  | cons x p ih => exact List.cons_lt_cons_iff.2 (.inr ⟨rfl, ih⟩)
theorem name_lt {a b : Nat} (hb : b < 1000) (h : a < b) : nameB a < nameB b := by
  unfold nameB
  refine lt_of_heads _ ?_
  have e : ∀ x y : Nat, x ≤ 9 → y ≤ 9 → x < y → UInt8.ofNat (48 + x) < UInt8.ofNat (48 + y) := fun x y hx hy hxy => by
    rw [UInt8.lt_iff_toNat_lt, u8_ofNat, u8_ofNat]; omega
  by_cases h1 : a / 100 = b / 100
  · by_cases h2 : a / 10 % 10 = b / 10 % 10
    · rw [h1, h2]
      exact List.cons_lt_cons_iff.2 (.inr ⟨rfl, List.cons_lt_cons_iff.2 (.inr ⟨rfl, List.cons_lt_cons_iff.2 (.inl (e _ _ (by omega) (by omega) (by omega)))⟩)⟩)
    · rw [h1]
      exact List.cons_lt_cons_iff.2 (.inr ⟨rfl, List.cons_lt_cons_iff.2 (.inl (e _ _ (by omega) (by omega) (by omega)))⟩)
  · exact List.cons_lt_cons_iff.2 (.inl (e _ _ (by omega) (by omega) (by omega)))

/-! ### a log -/
/-- a segment: its first record's number, its records. -/
abbrev Seg := Nat × List Bytes
def Seg.bytes (s : Seg) : Bytes := framesOf s.1 s.2
/-- segments one behind the other, from a number up to the next record's. -/
def Chain : Nat → List Seg → Nat → Prop
  | k, [], n => k = n
  | k, s :: l, n => s.1 = k ∧ Chain (k + s.2.length) l n
theorem chain_append {l m : List Seg} : ∀ {k n : Nat}, Chain k (l ++ m) n ↔ ∃ j, Chain k l j ∧ Chain j m n := by
  induction l with
  | nil => intro k n; exact ⟨fun h => ⟨k, rfl, h⟩, fun ⟨j, h1, h2⟩ => by cases h1; exact h2⟩
  | cons s l ih =>
    intro k n
    constructor
    · rintro ⟨h1, h2⟩
      obtain ⟨j, h3, h4⟩ := ih.1 h2
      exact ⟨j, ⟨h1, h3⟩, h4⟩
    · rintro ⟨j, ⟨h1, h3⟩, h4⟩
      exact ⟨h1, ih.2 ⟨j, h3, h4⟩⟩
theorem chain_in {l : List Seg} : ∀ {k n : Nat}, Chain k l n → k ≤ n ∧ ∀ s ∈ l, k ≤ s.1 ∧ s.1 + s.2.length ≤ n := by
  induction l with
  | nil => intro k n h; exact ⟨Nat.le_of_eq h, fun s hs => by cases hs⟩
  | cons t l ih =>
    rintro k n ⟨h1, h2⟩
    obtain ⟨h3, h4⟩ := ih h2
    refine ⟨by omega, fun s hs => ?_⟩
    rcases List.mem_cons.1 hs with rfl | hs
    · exact ⟨by omega, by omega⟩
    · have := h4 s hs
      exact ⟨by omega, this.2⟩
structure Lg where
  segs : List Seg
  from_ : Nat
  next : Nat
  /-- up to here the records last. -/
  mark : Nat
def recsOf (l : List Seg) : List Bytes := (l.map (·.2)).flatten
def Lg.recs (l : Lg) : List Bytes := recsOf l.segs
theorem chain_count {l : List Seg} : ∀ {k n : Nat}, Chain k l n → k + (recsOf l).length = n := by
  induction l with
  | nil => intro k n h; exact h
  | cons t l ih =>
    rintro k n ⟨h1, h2⟩
    have := ih h2
    unfold recsOf at this ⊢
    rw [List.map_cons, List.flatten_cons, List.length_append]
    omega
/-- each file that these bring, and no other. -/
def Holds (f : Files) (l : List Seg) : Prop := (∀ s ∈ l, Dict.get f (nameB s.1) = some s.bytes) ∧ ∀ n x, Dict.get f n = some x → ∃ s ∈ l, n = nameB s.1

/-- WHAT HOLDS BETWEEN CALLS: what is seen is the segments; what lasts is all but the end of the last one, which was written since. -/
structure Good (d : Dk) (l : Lg) : Prop where
  ok : d.Ok
  chain : Chain l.from_ l.segs l.next
  low : 1 ≤ l.from_ ∧ (l.segs = [] → l.from_ = 1)
  pos : ∀ ls s, l.segs = ls ++ [s] → ∀ t ∈ ls, 0 < t.2.length
  small : l.next ≤ 247 ∧ ∀ s ∈ l.segs, ∀ r ∈ s.2, r.length ≤ 65535
  seen : Holds d.seen l.segs
  /-- nothing waits, or it is the last segment's end. -/
  last : (d.pending = [] ∧ l.mark ≤ l.next ∧ Holds d.lasting l.segs) ∨
    ∃ (ls : List Seg) (s : Seg) (k : Nat), l.segs = ls ++ [s] ∧ k ≤ s.2.length ∧ l.mark ≤ s.1 + k ∧ d.pending = writes (nameB s.1) (framesOf s.1 (s.2.take k)).length (s.1 + k) (s.2.drop k) ∧
      (Holds d.lasting (ls ++ [(s.1, s.2.take k)]) ∨ k = 0 ∧ (ls = [] → l.from_ = 1) ∧ Holds d.lasting ls)

section
variable {d : Dk} {l : Lg} {ls : List Seg} {s : Seg}
theorem Good.apart (h : Good d l) (hs : l.segs = ls ++ [s]) : ∀ t ∈ ls, t.1 < s.1 ∧ t.1 < 1000 ∧ nameB t.1 ≠ nameB s.1 := by
  intro t ht
  have hc := h.chain
  rw [hs] at hc
  obtain ⟨j, h1, h2⟩ := chain_append.1 hc
  have e : s.1 = j := h2.1
  have h3 := (chain_in h1).2 t ht
  have h4 := (chain_in h2).1
  have hp := h.pos ls s hs t ht
  have hn := h.small.1
  refine ⟨by omega, by omega, fun he => ?_⟩
  have := name_inj (by omega) (by omega) he
  omega
theorem Good.last_num (h : Good d l) (hs : l.segs = ls ++ [s]) : s.1 + s.2.length = l.next ∧ 1 ≤ s.1 ∧ s.1 ≤ 247 := by
  have hc := h.chain
  rw [hs] at hc
  obtain ⟨j, h1, h2⟩ := chain_append.1 hc
  have e : s.1 = j := h2.1
  have h3 : j + s.2.length = l.next := h2.2
  have h4 := (chain_in h1).1
  have := h.low.1
  have hn := h.small.1
  exact ⟨by omega, by omega, by omega⟩
/-- all that waits is of the last segment. -/
theorem Good.pend (h : Good d l) (hs : l.segs = ls ++ [s]) : ∀ a ∈ d.pending, a.name = nameB s.1 := by
  intro a ha
  rcases h.last with ⟨hp, -⟩ | ⟨ls', s', k, hs', -, -, hp, -⟩
  · rw [hp] at ha; cases ha
  · rw [hs] at hs'
    obtain ⟨rfl, e⟩ := List.append_inj' hs' rfl
    cases e
    rw [hp] at ha
    exact (writes_name ha).1
theorem Good.lasting_ls (h : Good d l) (hs : l.segs = ls ++ [s]) : (∀ t ∈ ls, Dict.get d.lasting (nameB t.1) = some t.bytes) ∧ ∀ n x, Dict.get d.lasting n = some x → ∃ t ∈ l.segs, n = nameB t.1 := by
  rcases h.last with ⟨-, -, h1, h2⟩ | ⟨ls', s', k, hs', -, -, -, hl⟩
  · exact ⟨fun t ht => h1 t (by rw [hs]; simp [ht]), h2⟩
  · rw [hs] at hs'
    obtain ⟨rfl, e⟩ := List.append_inj' hs' rfl
    cases e
    rcases hl with ⟨h1, h2⟩ | ⟨-, -, h1, h2⟩
    · refine ⟨fun t ht => h1 t (by simp [ht]), fun n x hx => ?_⟩
      obtain ⟨t, ht, e⟩ := h2 n x hx
      rcases List.mem_append.1 ht with ht | ht
      · exact ⟨t, by rw [hs]; simp [ht], e⟩
      · rw [List.mem_singleton.1 ht] at e
        exact ⟨s, by rw [hs]; simp, e⟩
    · refine ⟨h1, fun n x hx => ?_⟩
      obtain ⟨t, ht, e⟩ := h2 n x hx
      exact ⟨t, by rw [hs]; simp [ht], e⟩

theorem Good.lower (h : Good d l) {m : Nat} (hm : m ≤ l.mark) : Good d { l with mark := m } :=
  ⟨h.ok, h.chain, h.low, h.pos, h.small, h.seen, h.last.imp (fun ⟨a, b, c⟩ => ⟨a, Nat.le_trans hm b, c⟩) fun ⟨ls, s, k, a, b, c, e⟩ => ⟨ls, s, k, a, b, Nat.le_trans hm c, e⟩⟩
/-- the last segment is synced. -/
theorem Good.sync (h : Good d l) (hs : l.segs = ls ++ [s]) : (d.sync (nameB s.1)).2 = 0 ∧ Good (d.sync (nameB s.1)).1 { l with mark := l.next } ∧ (d.sync (nameB s.1)).1.pending = [] ∧ Holds (d.sync (nameB s.1)).1.lasting l.segs := by
  have hnum := h.last_num hs
  have hg := h.seen.1 s (by rw [hs]; simp)
  have hlook : d.look (nameB s.1) = 0 := by
    unfold Dk.look
    rw [may_name (by omega), hg]
    rfl
  have hE : d.sync (nameB s.1) = ({ d.settle (fun a => a.name == nameB s.1) with held := Disk.freed d.held (d.settle (fun a => a.name == nameB s.1)).lasting (nameB s.1) }, 0) := by
    unfold Dk.sync
    rw [if_pos hlook]
  have hok := h.ok.sync (nameB s.1)
  rw [hE] at hok ⊢
  have hp : (d.settle fun a => a.name == nameB s.1).pending = [] := by
    show d.pending.filter (fun a => !(a.name == nameB s.1)) = []
    rw [List.filter_eq_nil_iff]
    intro a ha
    simp [h.pend hs a ha]
  have hh : Holds (d.settle fun a => a.name == nameB s.1).lasting l.segs := by
    obtain ⟨h1, h2⟩ := h.lasting_ls hs
    refine ⟨fun t ht => ?_, fun n x hx => ?_⟩
    · rw [h.ok.get_settled]
      rw [hs] at ht
      rcases List.mem_append.1 ht with ht | ht
      · rw [if_neg (h.apart hs t ht).2.2]
        exact h1 t ht
      · rw [List.mem_singleton.1 ht, if_pos rfl]
        exact hg
    · rw [h.ok.get_settled] at hx
      split at hx
      · rename_i e
        exact ⟨s, by rw [hs]; simp, e⟩
      · exact h2 n x hx
  exact ⟨rfl, ⟨hok, h.chain, h.low, h.pos, h.small, h.seen, .inl ⟨hp, Nat.le_refl _, hh⟩⟩, hp, hh⟩
end
end Go.Proofs.YtdbhccehbjhbpaaGreatDoor.Slog

/- seglog: what appending, trimming, a crash and opening make of a log; plain. No program. -/
namespace Go.Proofs.YtdbhccehbjhbpaaGreatDoor.Slog
open Disk (Dk Deed Files Dict may leB eff effs get_does get_put get_del)

section
variable {d : Dk} {l : Lg} {ls : List Seg} {s : Seg}
theorem framesOf_cut (k0 : Nat) (l : List Bytes) {k : Nat} (hk : k ≤ l.length) : (framesOf k0 (l.take k)).length + (framesOf (k0 + k) (l.drop k)).length = (framesOf k0 l).length := by
  have h := framesOf_append k0 (l.take k) (l.drop k)
  rw [List.take_append_drop, List.length_take, Nat.min_eq_left hk] at h
  rw [h, List.length_append]

/-- a record behind the last segment's. -/
theorem Good.write_more (h : Good d l) (hs : l.segs = ls ++ [s]) {r : Bytes} (hr : r.length ≤ 65535) (hn : l.next ≤ 246) :
    (d.write (nameB s.1) (framed l.next r)).2 = 0 ∧ Good (d.write (nameB s.1) (framed l.next r)).1 ⟨ls ++ [(s.1, s.2 ++ [r])], l.from_, l.next + 1, l.mark⟩ ∨ d.write (nameB s.1) (framed l.next r) = (d, 7) := by
  obtain ⟨hnum, hs1, hs2⟩ := h.last_num hs
  have hg := h.seen.1 s (by rw [hs]; simp)
  have hok := h.ok.write (nameB s.1) (framed l.next r)
  have hW : d.write (nameB s.1) (framed l.next r) = d.writeAt (nameB s.1) s.bytes.length (framed l.next r) := by
    unfold Dk.write
    rw [if_neg (by rw [may_name (by omega)]; simp), hg]
  rw [hW] at hok ⊢
  unfold Dk.writeAt at hok ⊢
  split
  · exact .inr rfl
  · rename_i hroom
    rw [if_neg hroom] at hok
    refine .inl ⟨rfl, hok, ?_, ⟨h.low.1, fun e => by simp at e⟩, ?_, ⟨by show l.next + 1 ≤ 247; omega, ?_⟩, ?_, .inr ?_⟩
    · have hc := h.chain
      rw [hs] at hc
      obtain ⟨j, h1, h2⟩ := chain_append.1 hc
      refine chain_append.2 ⟨j, h1, h2.1, ?_⟩
      have h3 : j + s.2.length = l.next := h2.2
      show j + (s.2 ++ [r]).length = l.next + 1
      rw [List.length_append]
      simp
      omega
    · intro ls' s' e t ht
      obtain ⟨rfl, -⟩ := List.append_inj' e rfl
      exact h.pos ls s hs t ht
    · intro t ht
      rcases List.mem_append.1 ht with ht | ht
      · exact h.small.2 t (by rw [hs]; simp [ht])
      · rw [List.mem_singleton.1 ht]
        intro x hx
        rcases List.mem_append.1 hx with hx | hx
        · exact h.small.2 s (by rw [hs]; simp) x hx
        · rw [List.mem_singleton.1 hx]; exact hr
    · have hb : (Seg.bytes (s.1, s.2 ++ [r])) = s.bytes ++ framed l.next r := by
        unfold Seg.bytes
        rw [framesOf_snoc, hnum]
      refine ⟨fun t ht => ?_, fun n x hx => ?_⟩
      · rw [show (d.act ⟨0, nameB s.1, s.bytes.length, framed l.next r⟩).seen = Files.does d.seen ⟨0, nameB s.1, s.bytes.length, framed l.next r⟩ from rfl, get_does]
        rcases List.mem_append.1 ht with ht | ht
        · rw [if_neg (h.apart hs t ht).2.2]
          exact h.seen.1 t (by rw [hs]; simp [ht])
        · rw [List.mem_singleton.1 ht, if_pos rfl, hg, eff_write, Option.getD_some, overlay_end, hb]
      · rw [show (d.act ⟨0, nameB s.1, s.bytes.length, framed l.next r⟩).seen = Files.does d.seen ⟨0, nameB s.1, s.bytes.length, framed l.next r⟩ from rfl, get_does] at hx
        split at hx
        · rename_i e
          exact ⟨(s.1, s.2 ++ [r]), by simp, e⟩
        · obtain ⟨t, ht, e⟩ := h.seen.2 n x hx
          rw [hs] at ht
          rcases List.mem_append.1 ht with ht | ht
          · exact ⟨t, by simp [ht], e⟩
          · rw [List.mem_singleton.1 ht] at e
            exact ⟨(s.1, s.2 ++ [r]), by simp, e⟩
    · rcases h.last with ⟨hp, hmk, hh⟩ | ⟨ls', s', k, hs', hk, hmk, hp, hl⟩
      · refine ⟨ls, (s.1, s.2 ++ [r]), s.2.length, rfl, by simp, by show l.mark ≤ _; omega, ?_, .inl ?_⟩
        · show d.pending ++ [_] = _
          rw [hp]
          simp only [List.nil_append, List.take_left, List.drop_left, writes, hnum]
          rfl
        · simp only [List.take_left]
          rw [← hs]
          exact hh
      · rw [hs] at hs'
        obtain ⟨rfl, e⟩ := List.append_inj' hs' rfl
        cases e
        refine ⟨ls, (s.1, s.2 ++ [r]), k, rfl, by simp; omega, hmk, ?_, ?_⟩
        · show d.pending ++ [_] = _
          rw [hp]
          simp only [List.take_append_of_le_length hk, List.drop_append_of_le_length hk, writes_append]
          congr 1
          have e1 := framesOf_cut s.1 s.2 hk
          have e2 : s.1 + k + (s.2.drop k).length = l.next := by rw [List.length_drop]; omega
          simp only [writes, e1, e2]
          rfl
        · simp only [List.take_append_of_le_length hk]
          rcases hl with hl | ⟨e0, e1, hl⟩
          · exact .inl hl
          · exact .inr ⟨e0, e1, hl⟩

/-- a record in a segment of its own. -/
theorem Good.write_new (h : Good d l) (hp : d.pending = []) (hh : Holds d.lasting l.segs) (hmk : l.mark ≤ l.next) (hall : ∀ s ∈ l.segs, 0 < s.2.length) {r : Bytes} (hr : r.length ≤ 65535) (hn : l.next ≤ 246) :
    (d.write (nameB l.next) (framed l.next r)).2 = 0 ∧ Good (d.write (nameB l.next) (framed l.next r)).1 ⟨l.segs ++ [(l.next, [r])], l.from_, l.next + 1, l.mark⟩ ∨ d.write (nameB l.next) (framed l.next r) = (d, 7) := by
  have hap : ∀ t ∈ l.segs, t.1 < l.next ∧ nameB t.1 ≠ nameB l.next := by
    intro t ht
    have h1 := (chain_in h.chain).2 t ht
    have h2 := hall t ht
    refine ⟨by omega, fun e => ?_⟩
    have := name_inj (by omega) (by omega) e
    omega
  have hg : Dict.get d.seen (nameB l.next) = none := by
    cases hx : Dict.get d.seen (nameB l.next) with
    | none => rfl
    | some x =>
      obtain ⟨t, ht, e⟩ := h.seen.2 _ x hx
      exact absurd e.symm (hap t ht).2
  have hok := h.ok.write (nameB l.next) (framed l.next r)
  have hlow := (chain_in h.chain).1
  have hfr := h.low.1
  have hW : d.write (nameB l.next) (framed l.next r) = if 4096 ≤ d.seen.length then (d, 7) else d.writeAt (nameB l.next) 0 (framed l.next r) := by
    unfold Dk.write
    rw [if_neg (by rw [may_name (by omega)]; simp), hg]
  rw [hW] at hok ⊢
  split
  · exact .inr rfl
  · rename_i hfew
    rw [if_neg hfew] at hok
    unfold Dk.writeAt at hok ⊢
    split
    · exact .inr rfl
    · rename_i hroom
      rw [if_neg hroom] at hok
      refine .inl ⟨rfl, hok, ?_, ⟨h.low.1, fun e => by simp at e⟩, ?_, ⟨by show l.next + 1 ≤ 247; omega, ?_⟩, ?_, .inr ⟨l.segs, (l.next, [r]), 0, rfl, Nat.zero_le _, hmk, ?_, .inr ⟨rfl, h.low.2, hh⟩⟩⟩
      · exact chain_append.2 ⟨l.next, h.chain, rfl, rfl⟩
      · intro ls' s' e t ht
        obtain ⟨rfl, -⟩ := List.append_inj' e rfl
        exact hall t ht
      · intro t ht
        rcases List.mem_append.1 ht with ht | ht
        · exact h.small.2 t ht
        · rw [List.mem_singleton.1 ht]
          intro x hx
          rw [List.mem_singleton.1 hx]
          exact hr
      · have hb : (Seg.bytes (l.next, [r])) = framed l.next r := by
          unfold Seg.bytes
          rw [framesOf_cons]
          exact List.append_nil _
        refine ⟨fun t ht => ?_, fun n x hx => ?_⟩
        · rw [show (d.act ⟨0, nameB l.next, 0, framed l.next r⟩).seen = Files.does d.seen ⟨0, nameB l.next, 0, framed l.next r⟩ from rfl, get_does]
          rcases List.mem_append.1 ht with ht | ht
          · rw [if_neg (hap t ht).2]
            exact h.seen.1 t ht
          · rw [List.mem_singleton.1 ht, if_pos rfl, hg, eff_write, hb]
            have := overlay_end [] (framed l.next r)
            simpa using this
        · rw [show (d.act ⟨0, nameB l.next, 0, framed l.next r⟩).seen = Files.does d.seen ⟨0, nameB l.next, 0, framed l.next r⟩ from rfl, get_does] at hx
          split at hx
          · rename_i e
            exact ⟨(l.next, [r]), by simp, e⟩
          · obtain ⟨t, ht, e⟩ := h.seen.2 n x hx
            exact ⟨t, by simp [ht], e⟩
      · show d.pending ++ [_] = _
        rw [hp]
        rfl
end
end Go.Proofs.YtdbhccehbjhbpaaGreatDoor.Slog

/- seglog: a crash, and opening; dropping and flushing; plain. No program. -/
namespace Go.Proofs.YtdbhccehbjhbpaaGreatDoor.Slog
open Disk (Dk Deed Files Dict may leB eff effs get_does get_put get_del keeps torn)

theorem effs_other {L : List Deed} {n : Bytes} (h : ∀ a ∈ L, a.name ≠ n) (o : Option Bytes) : effs L n o = o := by
  unfold effs
  rw [List.filter_eq_nil_iff.2 (fun a ha => by simpa using h a ha)]
  rfl
theorem crash_get (d : Dk) (keep : List Bool) (tear : Int) (n : Bytes) : Dict.get (d.crash keep tear).seen n = effs (torn (keeps d.pending keep) tear) n (Dict.get d.lasting n) := Disk.get_dones _ _ _
theorem kept_name {d : Dk} {f : Bytes} (h : ∀ a ∈ d.pending, a.name = f) {keep : List Bool} {tear : Int} {a : Deed} (ha : a ∈ torn (keeps d.pending keep) tear) : a.name = f := by
  obtain ⟨b, hb, -, e, -, -⟩ := Disk.torn_mem ha
  rw [e]
  exact h b (Disk.keeps_mem hb)
theorem recsOf_append (a b : List Seg) : recsOf (a ++ b) = recsOf a ++ recsOf b := by unfold recsOf; rw [List.map_append, List.flatten_append]
theorem recsOf_one (s : Seg) : recsOf [s] = s.2 := by simp [recsOf]

/-- what a crash leaves: segments whole, but of the last one what is read of it. -/
structure Left (d : Dk) (l : List Seg) : Prop where
  ok : d.Ok
  whole : ∀ ls s, l = ls ++ [s] → (∀ t ∈ ls, Dict.get d.seen (nameB t.1) = some t.bytes) ∧ ∃ c, Dict.get d.seen (nameB s.1) = some c ∧ Reads s.1 s.2 c
  only : ∀ n x, Dict.get d.seen n = some x → ∃ s ∈ l, n = nameB s.1
theorem Holds.left {d : Dk} {l : List Seg} (hok : d.Ok) (h : Holds d.seen l) : Left d l :=
  ⟨hok, fun ls s e => ⟨fun t ht => h.1 t (by rw [e]; simp [ht]), s.bytes, h.1 s (by rw [e]; simp), [], by rw [List.append_nil]; rfl, unframe_nil⟩, h.2⟩

section
variable {d : Dk} {l : Lg} {ls : List Seg} {s : Seg}
theorem Good.crash (h : Good d l) (keep : List Bool) (tear : Int) : ∃ (segs : List Seg) (next : Nat), Left (d.crash keep tear) segs ∧ Chain l.from_ segs next ∧ l.mark ≤ next ∧ next ≤ l.next ∧ recsOf segs = l.recs.take (next - l.from_) ∧
    (∀ ls s, segs = ls ++ [s] → ∀ t ∈ ls, 0 < t.2.length) ∧ (segs = [] → l.from_ = 1) ∧ ∀ s ∈ segs, ∀ r ∈ s.2, r.length ≤ 65535 := by
  have hok := h.ok.crash keep tear
  have hcnt := chain_count h.chain
  rcases h.last with ⟨hp, hmk, hh⟩ | ⟨ls, s, k, hs, hk, hmk, hp, hl⟩
  · refine ⟨l.segs, l.next, Holds.left hok ?_, h.chain, hmk, Nat.le_refl _, ?_, h.pos, h.low.2, h.small.2⟩
    · have e : ∀ n, Dict.get (d.crash keep tear).seen n = Dict.get d.lasting n := fun n => by
        rw [crash_get, hp, keeps_nil, torn_nil, Disk.effs_nil]
      exact ⟨fun t ht => by rw [e]; exact hh.1 t ht, fun n x hx => by rw [e] at hx; exact hh.2 n x hx⟩
    · unfold Lg.recs
      rw [List.take_of_length_le (by omega)]
  · have hc := h.chain
    rw [hs] at hc
    obtain ⟨j, hc1, hc2⟩ := chain_append.1 hc
    have hj : s.1 = j := hc2.1
    have hjn : j + s.2.length = l.next := hc2.2
    have hct := chain_count hc1
    have hpn := h.pend hs
    have hoth : ∀ n, n ≠ nameB s.1 → Dict.get (d.crash keep tear).seen n = Dict.get d.lasting n := fun n hn => by
      rw [crash_get]
      exact effs_other (fun a ha e => hn (by rw [← e]; exact kept_name hpn ha)) _
    have hlst := h.lasting_ls hs
    have ho : (Dict.get d.lasting (nameB s.1)).getD [] = framesOf s.1 (s.2.take k) := by
      rcases hl with hl | ⟨h0, -, hl⟩
      · rw [hl.1 (s.1, s.2.take k) (by simp)]
        rfl
      · cases hx : Dict.get d.lasting (nameB s.1) with
        | none => rw [h0]; rfl
        | some x =>
          obtain ⟨t, ht, e⟩ := hl.2 _ x hx
          exact absurd e.symm (h.apart hs t ht).2.2
    obtain ⟨t, ht, hr, hnone⟩ := crash_reads (nameB s.1) tear s.1 (s.2.drop k) keep (s.1 + k) _ (s.2.take k) (Dict.get d.lasting (nameB s.1)) ho rfl (by rw [List.length_take]; omega) ⟨by rw [List.length_drop]; have := h.small.1; omega, fun r hr => h.small.2 s (by rw [hs]; simp) r (List.mem_of_mem_drop hr)⟩
    rw [← hp, ← crash_get] at hr hnone
    rw [List.length_drop] at ht
    have htk : s.2.take k ++ (s.2.drop k).take t = s.2.take (k + t) := by rw [List.take_add]
    rw [htk] at hr
    have hlsb : ∀ t ∈ ls, Dict.get (d.crash keep tear).seen (nameB t.1) = some t.bytes := fun u hu => by
      rw [hoth _ (h.apart hs u hu).2.2]
      exact hlst.1 u hu
    have hrl : l.recs = recsOf ls ++ s.2 := by unfold Lg.recs; rw [hs, recsOf_append, recsOf_one]
    cases hx : Dict.get (d.crash keep tear).seen (nameB s.1) with
    | none =>
      obtain ⟨ho0, ht0⟩ := hnone hx
      have hk0 : k = 0 ∧ (ls = [] → l.from_ = 1) := by
        rcases hl with hl | ⟨h0, h1, -⟩
        · have := hl.1 (s.1, s.2.take k) (by simp)
          rw [ho0] at this
          cases this
        · exact ⟨h0, h1⟩
      refine ⟨ls, j, ⟨hok, fun ls' s' e => ?_, fun n x hn => ?_⟩, hc1, by omega, by omega, ?_, fun ls' s' e u hu => h.pos ls s hs u (by rw [e]; simp [hu]), hk0.2, fun u hu => h.small.2 u (by rw [hs]; simp [hu])⟩
      · refine ⟨fun u hu => hlsb u (by rw [e]; simp [hu]), s'.bytes, hlsb s' (by rw [e]; simp), [], by rw [List.append_nil]; rfl, unframe_nil⟩
      · by_cases hnn : n = nameB s.1
        · rw [hnn, hx] at hn
          cases hn
        · rw [hoth n hnn] at hn
          obtain ⟨u, hu, e⟩ := hlst.2 n x hn
          rw [hs] at hu
          rcases List.mem_append.1 hu with hu | hu
          · exact ⟨u, hu, e⟩
          · rw [List.mem_singleton.1 hu] at e
            exact absurd e hnn
      · rw [hrl, List.take_append_of_le_length (by omega), List.take_of_length_le (by omega)]
    | some c =>
      rw [hx, Option.getD_some] at hr
      refine ⟨ls ++ [(s.1, s.2.take (k + t))], j + (k + t), ⟨hok, fun ls' s' e => ?_, fun n x hn => ?_⟩, chain_append.2 ⟨j, hc1, hj, ?_⟩, by omega, by omega, ?_, fun ls' s' e u hu => ?_, fun e => by simp at e, fun u hu => ?_⟩
      · obtain ⟨rfl, e2⟩ := List.append_inj' e rfl
        cases e2
        exact ⟨hlsb, c, hx, hr⟩
      · by_cases hnn : n = nameB s.1
        · exact ⟨(s.1, s.2.take (k + t)), by simp, hnn⟩
        · rw [hoth n hnn] at hn
          obtain ⟨u, hu, e⟩ := hlst.2 n x hn
          rw [hs] at hu
          rcases List.mem_append.1 hu with hu | hu
          · exact ⟨u, by simp [hu], e⟩
          · rw [List.mem_singleton.1 hu] at e
            exact absurd e hnn
      · show j + (s.2.take (k + t)).length = _
        rw [List.length_take]
        omega
      · rw [recsOf_append, recsOf_one, hrl, List.take_append, List.take_of_length_le (l := recsOf ls) (by omega)]
        congr 1
        rw [show j + (k + t) - l.from_ - (recsOf ls).length = k + t by omega]
      · obtain ⟨rfl, -⟩ := List.append_inj' e rfl
        exact h.pos ls s hs u hu
      · rcases List.mem_append.1 hu with hu | hu
        · exact h.small.2 u (by rw [hs]; simp [hu])
        · rw [List.mem_singleton.1 hu]
          exact fun r hr => h.small.2 s (by rw [hs]; simp) r (List.mem_of_mem_take hr)

/-! ### opening -/
/-- what opening makes of a disk. -/
def opened (d : Dk) (l : List Seg) : Dk := (match l.getLast? with | none => d | some s => (d.cut (nameB s.1) (s.bytes.length : Int)).1).flush
theorem flush_good {k n : Nat} {segs : List Seg} (hok : d.Ok) (hs : Holds d.seen segs) (hc : Chain k segs n) (h1 : 1 ≤ k ∧ (segs = [] → k = 1)) (hpos : ∀ ls s, segs = ls ++ [s] → ∀ t ∈ ls, 0 < t.2.length) (hsm : n ≤ 247 ∧ ∀ s ∈ segs, ∀ r ∈ s.2, r.length ≤ 65535) : Good d.flush ⟨segs, k, n, n⟩ := by
  have e : ∀ m, Dict.get (d.settle fun _ => true).lasting m = Dict.get d.seen m := hok.get_flushed
  have hh : Holds (d.settle fun _ => true).lasting segs := ⟨fun t ht => by rw [e]; exact hs.1 t ht, fun m x hx => hs.2 m x (by rw [← e]; exact hx)⟩
  exact ⟨hok.flush, hc, h1, hpos, hsm, hh, .inl ⟨Disk.flush_pend d, Nat.le_refl _, hh⟩⟩
theorem Left.open_ {k n : Nat} {segs : List Seg} (h : Left d segs) (hc : Chain k segs n) (h1 : 1 ≤ k ∧ (segs = [] → k = 1)) (hpos : ∀ ls s, segs = ls ++ [s] → ∀ t ∈ ls, 0 < t.2.length) (hsm : n ≤ 247 ∧ ∀ s ∈ segs, ∀ r ∈ s.2, r.length ≤ 65535) :
    Good (opened d segs) ⟨segs, k, n, n⟩ := by
  unfold opened
  cases hgl : segs.getLast? with
  | none =>
    have hn : segs = [] := List.getLast?_eq_none_iff.1 hgl
    subst hn
    exact flush_good h.ok ⟨fun t ht => (by cases ht), h.only⟩ hc h1 hpos hsm
  | some s =>
    obtain ⟨ls, hls⟩ := List.getLast?_eq_some_iff.1 hgl
    obtain ⟨hw, c, hcs, z, hz, -⟩ := h.whole ls s hls
    have hc2 := hc
    rw [hls] at hc2
    obtain ⟨j, hc1, hj, hjn⟩ := chain_append.1 hc2
    have hjk := (chain_in hc1).1
    have hs247 : s.1 ≤ 247 := by have := hsm.1; have : j + s.2.length = n := hjn; omega
    have hE : d.cut (nameB s.1) (s.bytes.length : Int) = (d.act ⟨1, nameB s.1, s.bytes.length, []⟩, 0) := by
      unfold Dk.cut
      rw [if_neg (by rw [may_name (by omega)]; simp), hcs]
      simp only
      rw [if_neg, Int.toNat_natCast]
      rw [hz]
      show ¬ ((s.bytes.length : Int) < 0 ∨ (s.bytes.length : Int) > ((s.bytes ++ z).length : Nat))
      rw [List.length_append]
      omega
    have hok := h.ok.cut (nameB s.1) (s.bytes.length : Int)
    rw [hE] at hok
    simp only [hE]
    have hap : ∀ t ∈ ls, nameB t.1 ≠ nameB s.1 := fun t ht e => by
      have h3 := (chain_in hc1).2 t ht
      have hp := hpos ls s hls t ht
      have := name_inj (by omega) (by omega) e
      omega
    refine flush_good hok ⟨fun t ht => ?_, fun m x hx => ?_⟩ hc h1 hpos hsm
    · rw [show (d.act ⟨1, nameB s.1, s.bytes.length, []⟩).seen = Files.does d.seen ⟨1, nameB s.1, s.bytes.length, []⟩ from rfl, get_does]
      rw [hls] at ht
      rcases List.mem_append.1 ht with ht | ht
      · rw [if_neg (hap t ht)]
        exact hw t ht
      · rw [List.mem_singleton.1 ht, if_pos rfl, hcs]
        unfold eff
        rw [if_neg (by simp), if_pos rfl, Option.map_some, hz]
        show some ((s.bytes ++ z).take s.bytes.length) = _
        rw [List.take_left]
    · rw [show (d.act ⟨1, nameB s.1, s.bytes.length, []⟩).seen = Files.does d.seen ⟨1, nameB s.1, s.bytes.length, []⟩ from rfl, get_does] at hx
      split at hx
      · rename_i e
        exact ⟨s, by rw [hls]; simp, e⟩
      · exact h.only m x hx
end
end Go.Proofs.YtdbhccehbjhbpaaGreatDoor.Slog

/- seglog: the list of a log's files; trimming; plain. No program. -/
namespace Go.Proofs.YtdbhccehbjhbpaaGreatDoor.Slog
open Disk (Dk Deed Files Dict may leB eff effs get_does get_put get_del keeps torn)

/-- names rise with numbers. -/
theorem names_rise {l : List Seg} : ∀ {k n : Nat}, Chain k l n → n ≤ 247 → (∀ ls s, l = ls ++ [s] → ∀ t ∈ ls, 0 < t.2.length) → (l.map fun s => nameB s.1).Pairwise (· < ·) := by
  induction l with
  | nil => intro k n _ _ _; exact List.Pairwise.nil
  | cons s l ih =>
    rintro k n ⟨h1, h2⟩ hn hp
    rw [List.map_cons, List.pairwise_cons]
    refine ⟨fun x hx => ?_, ih h2 hn fun ls t e u hu => hp (s :: ls) t (by rw [e]; rfl) u (by simp [hu])⟩
    obtain ⟨t, ht, rfl⟩ := List.mem_map.1 hx
    have h3 := (chain_in h2).2 t ht
    have hpos : 0 < s.2.length := by
      have hne : l ≠ [] := by intro e; rw [e] at ht; cases ht
      obtain ⟨ls, u, e⟩ : ∃ ls u, l = ls ++ [u] := ⟨l.dropLast, l.getLast hne, (List.dropLast_concat_getLast hne).symm⟩
      exact hp (s :: ls) u (by rw [e]; rfl) s (by simp)
    exact name_lt (by omega) (by omega)
section
variable {d : Dk} {l : Lg} {ls : List Seg} {s : Seg}
theorem Left.list {k n : Nat} {segs : List Seg} (h : Left d segs) (hc : Chain k segs n) (hn : n ≤ 247) (hpos : ∀ ls s, segs = ls ++ [s] → ∀ t ∈ ls, 0 < t.2.length) : d.list = segs.map fun s => nameB s.1 := by
  have hr := names_rise hc hn hpos
  have hnd : (segs.map fun s => nameB s.1).Nodup := hr.imp fun {a b} h e => by
    subst e
    exact absurd h (List.lt_irrefl a)
  have hget : ∀ s ∈ segs, ∃ c, Dict.get d.seen (nameB s.1) = some c := by
    intro s hs
    have hne : segs ≠ [] := by intro e; rw [e] at hs; cases hs
    obtain ⟨ls, u, e⟩ : ∃ ls u, segs = ls ++ [u] := ⟨segs.dropLast, segs.getLast hne, (List.dropLast_concat_getLast hne).symm⟩
    obtain ⟨h1, c, h2, -⟩ := h.whole ls u e
    rw [e] at hs
    rcases List.mem_append.1 hs with hs | hs
    · exact ⟨_, h1 s hs⟩
    · rw [List.mem_singleton.1 hs]
      exact ⟨c, h2⟩
  have hg : Dict.Ok (segs.map fun s => (nameB s.1, (Dict.get d.seen (nameB s.1)).getD [])) := by
    unfold Dict.Ok
    rw [List.map_map]
    exact hnd
  have hperm : d.seen.Perm (segs.map fun s => (nameB s.1, (Dict.get d.seen (nameB s.1)).getD [])) := by
    refine Disk.perm_of_get h.ok.seenOk hg fun m => ?_
    cases hm : Dict.get d.seen m with
    | none =>
      symm
      refine Disk.get_notin fun hx => ?_
      rw [List.map_map] at hx
      obtain ⟨s, hs, e⟩ := List.mem_map.1 hx
      obtain ⟨c, hc⟩ := hget s hs
      have e' : nameB s.1 = m := e
      rw [e', hm] at hc
      cases hc
    | some x =>
      obtain ⟨s, hs, rfl⟩ := h.only m x hm
      symm
      refine Disk.get_of_mem hg (List.mem_map.2 ⟨s, hs, ?_⟩)
      rw [hm]
      rfl
  have hp2 := hperm.map (·.1)
  rw [List.map_map] at hp2
  unfold Dk.list
  have e := mergeSort_of_perm hp2
  refine Eq.trans (show (d.seen.map (·.1)).mergeSort leB = _ from e) ?_
  refine List.mergeSort_of_pairwise (hr.imp fun {a b} h => ?_)
  show decide (a ≤ b) = true
  exact decide_eq_true (List.le_of_lt h)

/-! ### trimming -/
def trimF : List Seg → Int → List Seg
  | s :: t :: l, tt => if (t.1 : Int) ≤ tt then trimF (t :: l) tt else s :: t :: l
  | l, _ => l
def dropped : Dk → List Seg → Int → Dk
  | d, s :: t :: l, tt => if (t.1 : Int) ≤ tt then dropped (d.drop (nameB s.1)).1 (t :: l) tt else d
  | d, _, _ => d
theorem drop_front {l : List Seg} (hok : d.Ok) (hs : Holds d.seen (s :: l)) (hlt : s.1 < 1000) (hap : ∀ t ∈ l, nameB t.1 ≠ nameB s.1) : (d.drop (nameB s.1)).2 = 0 ∧ (d.drop (nameB s.1)).1.Ok ∧ Holds (d.drop (nameB s.1)).1.seen l := by
  have hg := hs.1 s (by simp)
  have hE : d.drop (nameB s.1) = (d.act ⟨2, nameB s.1, 0, []⟩, 0) := by
    unfold Dk.drop
    rw [if_neg (by rw [may_name hlt]; simp), hg]
  have hok2 := hok.drop (nameB s.1)
  rw [hE] at hok2 ⊢
  refine ⟨rfl, hok2, fun t ht => ?_, fun m x hx => ?_⟩
  · rw [show (d.act ⟨2, nameB s.1, 0, []⟩).seen = Files.does d.seen ⟨2, nameB s.1, 0, []⟩ from rfl, get_does, if_neg (hap t ht)]
    exact hs.1 t (by simp [ht])
  · rw [show (d.act ⟨2, nameB s.1, 0, []⟩).seen = Files.does d.seen ⟨2, nameB s.1, 0, []⟩ from rfl, get_does] at hx
    split at hx
    · unfold eff at hx
      rw [if_pos rfl] at hx
      cases hx
    · rename_i hne
      obtain ⟨t, ht, e⟩ := hs.2 m x hx
      rcases List.mem_cons.1 ht with rfl | ht
      · exact absurd e hne
      · exact ⟨t, ht, e⟩
theorem pos_tail {l : List Seg} (h : ∀ ls u, s :: l = ls ++ [u] → ∀ t ∈ ls, 0 < t.2.length) : ∀ ls u, l = ls ++ [u] → ∀ t ∈ ls, 0 < t.2.length :=
  fun ls u e t ht => h (s :: ls) u (by rw [e]; rfl) t (by simp [ht])
theorem pos_head {l : List Seg} (h : ∀ ls u, s :: l = ls ++ [u] → ∀ t ∈ ls, 0 < t.2.length) (hne : l ≠ []) : 0 < s.2.length := by
  obtain ⟨ls, u, e⟩ : ∃ ls u, l = ls ++ [u] := ⟨l.dropLast, l.getLast hne, (List.dropLast_concat_getLast hne).symm⟩
  exact h (s :: ls) u (by rw [e]; rfl) s (by simp)
theorem dropped_ok (tt : Int) : ∀ (l : List Seg) (d : Dk) (k n : Nat), d.Ok → Holds d.seen l → Chain k l n → n ≤ 247 → (∀ ls u, l = ls ++ [u] → ∀ t ∈ ls, 0 < t.2.length) →
    (dropped d l tt).Ok ∧ Holds (dropped d l tt).seen (trimF l tt) ∧ ∃ j pre, l = pre ++ trimF l tt ∧ Chain k pre j ∧ Chain j (trimF l tt) n ∧ (l ≠ [] → trimF l tt ≠ []) ∧ (j = k ∨ (j : Int) ≤ tt) := by
  intro l
  induction l with
  | nil => intro d k n hok hs hc _ _; exact ⟨hok, hs, k, [], rfl, rfl, hc, fun h => absurd rfl h, .inl rfl⟩
  | cons s l ih =>
    intro d k n hok hs hc hn hp
    cases l with
    | nil => exact ⟨hok, hs, k, [], rfl, rfl, hc, fun _ => by simp [trimF], .inl rfl⟩
    | cons t l =>
      by_cases hto : (t.1 : Int) ≤ tt
      · have e1 : trimF (s :: t :: l) tt = trimF (t :: l) tt := by rw [trimF, if_pos hto]
        have e2 : dropped d (s :: t :: l) tt = dropped (d.drop (nameB s.1)).1 (t :: l) tt := by rw [dropped, if_pos hto]
        rw [e1, e2]
        have hpos := pos_head hp (by simp)
        have hlt : ∀ u ∈ t :: l, s.1 < u.1 ∧ u.1 ≤ n := fun u hu => by
          have h1 := (chain_in hc.2).2 u hu
          have h2 : s.1 = k := hc.1
          omega
        have hs1 : s.1 < 1000 := by have := hlt t (by simp); omega
        obtain ⟨-, d1, d2⟩ := drop_front hok hs hs1 fun u hu e => by
          have := hlt u hu
          have := name_inj (by omega) (by omega) e
          omega
        obtain ⟨a, b, j, pre, c1, c2, c3, c4, c5⟩ := ih (d.drop (nameB s.1)).1 (k + s.2.length) n d1 d2 hc.2 hn (pos_tail hp)
        refine ⟨a, b, j, s :: pre, by rw [List.cons_append, ← c1], ⟨hc.1, c2⟩, c3, fun _ => c4 (by simp), .inr ?_⟩
        rcases c5 with c5 | c5
        · have : t.1 = k + s.2.length := hc.2.1
          omega
        · exact c5
      · have e1 : trimF (s :: t :: l) tt = s :: t :: l := by rw [trimF, if_neg hto]
        have e2 : dropped d (s :: t :: l) tt = d := by rw [dropped, if_neg hto]
        rw [e1, e2]
        exact ⟨hok, hs, k, [], rfl, rfl, hc, fun h => h, .inl rfl⟩
/-- trimming takes whole segments away, for good; what is kept is as it was. -/
theorem Good.trim (h : Good d l) (tt : Int) : ∃ j pre, l.segs = pre ++ trimF l.segs tt ∧ Chain l.from_ pre j ∧ (j = l.from_ ∨ (j : Int) ≤ tt) ∧ (l.segs ≠ [] → trimF l.segs tt ≠ []) ∧ Good (dropped d l.segs tt).flush ⟨trimF l.segs tt, j, l.next, l.next⟩ := by
  obtain ⟨a, b, j, pre, c1, c2, c3, c4, c5⟩ := dropped_ok tt l.segs d l.from_ l.next h.ok h.seen h.chain h.small.1 h.pos
  have hj := (chain_in c2).1
  refine ⟨j, pre, c1, c2, c5, c4, flush_good a b c3 ⟨by have := h.low.1; omega, fun e => ?_⟩ (fun ls u e t ht => h.pos (pre ++ ls) u (by rw [c1, e, List.append_assoc]) t (by simp [ht])) ⟨h.small.1, fun u hu => h.small.2 u (by rw [c1]; simp [hu])⟩⟩
  have hnil : l.segs = [] := by
    cases hl : l.segs with
    | nil => rfl
    | cons x y => exact absurd e (c4 (by rw [hl]; simp))
  have h1 := h.low.2 hnil
  rw [hnil] at c1
  have hpre : pre = [] := by
    cases pre with
    | nil => rfl
    | cons x y => simp at c1
  subst hpre
  have : l.from_ = j := c2
  omega
end
end Go.Proofs.YtdbhccehbjhbpaaGreatDoor.Slog

/- seglog: Append and Sync over the plain log. No program. -/
namespace Go.Proofs.YtdbhccehbjhbpaaGreatDoor.Slog
open Disk (Dk Deed Files Dict)

def Lg.addNew (l : Lg) (r : Bytes) : Lg := ⟨l.segs ++ [(l.next, [r])], l.from_, l.next + 1, l.mark⟩
def Lg.addMore (l : Lg) (s : Seg) (r : Bytes) : Lg := ⟨l.segs.dropLast ++ [(s.1, s.2 ++ [r])], l.from_, l.next + 1, l.mark⟩
def Lg.marked (l : Lg) : Lg := { l with mark := l.next }
/-- what Append makes: the disk, the log, the number, the error. -/
def put (w : Dk × Int) (l m : Lg) (n : Nat) : Dk × Lg × Int × Int := if w.2 = 0 then (w.1, m, (n : Int), 0) else (w.1, l, 0, w.2)
def append (d : Dk) (l : Lg) (r : Bytes) : Dk × Lg × Int × Int :=
  if 65535 < r.length then (d, l, 0, 4) else
  match l.segs.getLast? with
  | none => put (d.write (nameB l.next) (framed l.next r)) l (l.addNew r) l.next
  | some s =>
    if 4096 ≤ s.bytes.length then put ((d.sync (nameB s.1)).1.write (nameB l.next) (framed l.next r)) l.marked (l.marked.addNew r) l.next
    else put (d.write (nameB s.1) (framed l.next r)) l (l.addMore s r) l.next
def sync (d : Dk) (l : Lg) : Dk × Lg × Int :=
  match l.segs.getLast? with
  | none => (d, l, 0)
  | some s => ((d.sync (nameB s.1)).1, l.marked, (d.sync (nameB s.1)).2)

/-- what an append is to a log: one record more, or nothing. -/
structure Appended (l m : Lg) (r : Bytes) (n e : Int) : Prop where
  from_ : m.from_ = l.from_
  mark : l.mark ≤ m.mark
  done : e = 0 → n = l.next ∧ m.next = l.next + 1 ∧ m.recs = l.recs ++ [r] ∧ r.length ≤ 65535 ∧ m.segs ≠ []
  not : e ≠ 0 → n = 0 ∧ m.next = l.next ∧ m.segs = l.segs ∧ m.mark ≤ l.next
section
variable {d : Dk} {l : Lg}
theorem marked_good {d' : Dk} (h : Good d' { l with mark := l.next }) : Good d' l.marked := h
theorem put_good {w : Dk × Int} {m : Lg} {r : Bytes} (hl : w = (d, 7) → Good d l) (hor : w.2 = 0 ∧ Good w.1 m ∨ w = (d, 7)) (h1 : m.from_ = l.from_) (h2 : l.mark ≤ m.mark) (h3 : m.next = l.next + 1 ∧ m.recs = l.recs ++ [r] ∧ r.length ≤ 65535 ∧ m.segs ≠ []) (h4 : l.mark ≤ l.next) :
    Good (put w l m l.next).1 (put w l m l.next).2.1 ∧ Appended l (put w l m l.next).2.1 r (put w l m l.next).2.2.1 (put w l m l.next).2.2.2 := by
  unfold put
  rcases hor with ⟨e, hg⟩ | e
  · rw [if_pos e]
    exact ⟨hg, h1, h2, fun _ => ⟨rfl, h3⟩, fun h => absurd rfl h⟩
  · rw [if_neg (by rw [e]; exact (by decide : ¬ (7 : Int) = 0))]
    have hd := hl e
    subst e
    exact ⟨hd, rfl, Nat.le_refl _, fun h => (by cases h), fun _ => ⟨rfl, rfl, rfl, h4⟩⟩
theorem Good.mark_le (h : Good d l) : l.mark ≤ l.next := by
  rcases h.last with ⟨-, h1, -⟩ | ⟨ls, s, k, hs, hk, h1, -⟩
  · exact h1
  · have := (h.last_num hs).1
    omega
theorem Good.append (h : Good d l) (hn : l.next ≤ 246) (r : Bytes) : Good (append d l r).1 (append d l r).2.1 ∧ Appended l (append d l r).2.1 r (append d l r).2.2.1 (append d l r).2.2.2 := by
  have hmk := h.mark_le
  unfold Slog.append
  split
  · exact ⟨h, rfl, Nat.le_refl _, fun e => (by cases e), fun _ => ⟨rfl, rfl, rfl, hmk⟩⟩
  · rename_i hr
    have hr' : r.length ≤ 65535 := by omega
    cases hgl : l.segs.getLast? with
    | none =>
      have hnil : l.segs = [] := List.getLast?_eq_none_iff.1 hgl
      have hp : d.pending = [] ∧ Holds d.lasting l.segs := by
        rcases h.last with ⟨a, -, c⟩ | ⟨ls, s, k, hs, -⟩
        · exact ⟨a, c⟩
        · rw [hnil] at hs
          simp at hs
      refine put_good (fun _ => h) (h.write_new hp.1 hp.2 hmk (fun s hs => by rw [hnil] at hs; cases hs) hr' hn) rfl (Nat.le_refl _) ⟨rfl, ?_, hr', by simp [Lg.addNew]⟩ hmk
      unfold Lg.recs Lg.addNew
      rw [recsOf_append, recsOf_one]
    | some s =>
      obtain ⟨ls, hls⟩ := List.getLast?_eq_some_iff.1 hgl
      simp only
      split
      · rename_i hfull
        obtain ⟨-, hg, hp, hh⟩ := h.sync hls
        have hall : ∀ t ∈ l.segs, 0 < t.2.length := by
          intro t ht
          rw [hls] at ht
          rcases List.mem_append.1 ht with ht | ht
          · exact h.pos ls s hls t ht
          · rw [List.mem_singleton.1 ht]
            cases hs2 : s.2 with
            | nil => unfold Seg.bytes at hfull; rw [hs2] at hfull; simp [framesOf] at hfull
            | cons _ _ => simp
        have hw := Good.write_new (l := l.marked) hg hp hh (Nat.le_refl _) hall hr' hn
        have h2 := put_good (l := l.marked) (m := l.marked.addNew r) (r := r) (fun _ => hg) hw rfl (Nat.le_refl _) ⟨rfl, by unfold Lg.recs Lg.addNew; rw [recsOf_append, recsOf_one], hr', by simp [Lg.addNew]⟩ (Nat.le_refl _)
        refine ⟨h2.1, h2.2.from_, Nat.le_trans hmk h2.2.mark, h2.2.done, h2.2.not⟩
      · have hd : l.segs.dropLast = ls := by rw [hls, List.dropLast_concat]
        refine put_good (fun _ => h) ?_ rfl (Nat.le_refl _) ⟨rfl, ?_, hr', by simp [Lg.addMore]⟩ hmk
        · unfold Lg.addMore
          rw [hd]
          exact h.write_more hls hr' hn
        · unfold Lg.recs Lg.addMore
          rw [hd]
          simp only
          rw [hls, recsOf_append, recsOf_append, recsOf_one, recsOf_one, List.append_assoc]
theorem Good.synced (h : Good d l) : Good (Slog.sync d l).1 (Slog.sync d l).2.1 ∧ (Slog.sync d l).2.2 = 0 ∧ (Slog.sync d l).2.1.segs = l.segs ∧ (Slog.sync d l).2.1.from_ = l.from_ ∧ (Slog.sync d l).2.1.next = l.next ∧ (l.segs ≠ [] → (Slog.sync d l).2.1.mark = l.next) ∧ l.mark ≤ (Slog.sync d l).2.1.mark := by
  unfold Slog.sync
  cases hgl : l.segs.getLast? with
  | none =>
    have hnil : l.segs = [] := List.getLast?_eq_none_iff.1 hgl
    exact ⟨h, rfl, rfl, rfl, rfl, fun e => absurd hnil e, Nat.le_refl _⟩
  | some s =>
    obtain ⟨ls, hls⟩ := List.getLast?_eq_some_iff.1 hgl
    obtain ⟨h0, hg, -, -⟩ := h.sync hls
    exact ⟨hg, h0, rfl, rfl, rfl, fun _ => rfl, h.mark_le⟩
end
end Go.Proofs.YtdbhccehbjhbpaaGreatDoor.Slog
