/- disk: what always holds of a disk. No program. -/
import Derived.Test.YtkednbkildkkmaaD11
namespace Go.Proofs.Ytkednbkildkkmaa.Disk

def hold (h : Dict Nat) (n : Bytes) : Nat := (Dict.get h n).getD 0

section
variable {h : Dict Nat} {n m : Bytes} {k : Nat}
theorem Dict.Ok.tail {α : Type} {p : Bytes × α} {f : Dict α} (h : Dict.Ok (p :: f)) : Dict.Ok f ∧ p.1 ∉ f.map (·.1) := by
  unfold Dict.Ok at h ⊢
  rw [List.map_cons, List.nodup_cons] at h
  exact ⟨h.2, h.1⟩
theorem get_cons {α : Type} (p : Bytes × α) (f : Dict α) (n : Bytes) : Dict.get (p :: f) n = if p.1 = n then some p.2 else Dict.get f n := by
  unfold Dict.get
  rw [List.find?_cons]
  by_cases e : p.1 = n
  · simp [e]
  · have e' : (p.1 == n) = false := by simpa using e
    rw [if_neg e, e']
theorem get_notin {α : Type} {f : Dict α} (h : n ∉ f.map (·.1)) : Dict.get f n = none := get_none' fun p hp e => h (List.mem_map.2 ⟨p, hp, e⟩)
theorem used_cons (p : Bytes × Nat) (h : Dict Nat) : used (p :: h) = p.2 + used h := by simp [used]
theorem hold_cons (p : Bytes × Nat) (h : Dict Nat) (n : Bytes) : hold (p :: h) n = if p.1 = n then p.2 else hold h n := by
  unfold hold
  rw [get_cons]
  split <;> rfl
theorem used_del (hok : Dict.Ok h) (n : Bytes) : used (Dict.del h n) + hold h n = used h := by
  induction h with
  | nil => rfl
  | cons p h ih =>
    obtain ⟨hok', hp⟩ := hok.tail
    rw [hold_cons]
    by_cases e : p.1 = n
    · have hd : Dict.del (p :: h) n = h := by
        have h1 : Dict.del h n = h := del_none (get_notin (by rw [← e]; exact hp))
        unfold Dict.del at h1 ⊢
        rw [List.filter_cons]
        simpa [e] using h1
      rw [hd, if_pos e, used_cons]
      omega
    · have hd : Dict.del (p :: h) n = p :: Dict.del h n := by
        unfold Dict.del
        rw [List.filter_cons]
        simp [e]
      rw [hd, if_neg e, used_cons, used_cons]
      have := ih hok'
      omega
theorem used_put (hok : Dict.Ok h) (n : Bytes) (k : Nat) : used (Dict.put h n k) + hold h n = used h + k := by
  unfold Dict.put
  rw [used_cons]
  have := used_del hok n
  simp only
  omega
theorem hold_put : hold (Dict.put h n k) m = if m = n then k else hold h m := by
  unfold hold
  rw [get_put]
  split <;> rfl
theorem hold_del : hold (Dict.del h n) m = if m = n then 0 else hold h m := by
  unfold hold
  rw [get_del]
  split <;> rfl
theorem hold_le (hok : Dict.Ok h) (n : Bytes) : hold h n ≤ used h := by
  have := used_del hok n
  omega
end

/-! ### sizes -/
def bytesOf (f : Files) : Nat := (f.map fun p => p.2.length).sum
theorem bytesOf_cons (p : Bytes × Bytes) (f : Files) : bytesOf (p :: f) = p.2.length + bytesOf f := by simp [bytesOf]
theorem bytesOf_le {f : Files} : ∀ {h : Dict Nat}, Dict.Ok f → Dict.Ok h → (∀ p ∈ f, p.2.length ≤ hold h p.1) → bytesOf f ≤ used h := by
  induction f with
  | nil => intro h _ _ _; simp [bytesOf]
  | cons p f ih =>
    intro h hf hh hle
    obtain ⟨hf', hp⟩ := hf.tail
    have h1 := ih hf' (hh.del p.1) (fun q hq => by
      rw [hold_del, if_neg (fun e => hp (List.mem_map.2 ⟨q, hq, e⟩))]
      exact hle q (by simp [hq]))
    have h2 := used_del hh p.1
    have h3 := hle p (by simp)
    rw [bytesOf_cons]
    omega
theorem lens_cons (p : Bytes × Bytes) (f : Files) : lens (p :: f) = if p.2.length = 0 then lens f else (p.1, p.2.length) :: lens f := by
  unfold lens
  rw [List.filter_cons]
  by_cases e : p.2.length = 0 <;> simp [e]
theorem used_lens (f : Files) : used (lens f) = bytesOf f := by
  induction f with
  | nil => rfl
  | cons p f ih =>
    rw [lens_cons, bytesOf_cons]
    split
    · omega
    · rw [used_cons]
      simp only
      omega
theorem lens_names {f : Files} {n : Bytes} (h : n ∈ (lens f).map (·.1)) : n ∈ f.map (·.1) := by
  unfold lens at h
  rw [List.map_map] at h
  obtain ⟨p, hp, e⟩ := List.mem_map.1 h
  exact List.mem_map.2 ⟨p, (List.mem_filter.1 hp).1, e⟩
theorem ok_lens {f : Files} (hf : Dict.Ok f) : Dict.Ok (lens f) := by
  unfold Dict.Ok lens
  rw [List.map_map]
  exact hf.sublist ((List.filter_sublist).map _)
theorem hold_lens {f : Files} (hf : Dict.Ok f) (n : Bytes) : hold (lens f) n = ((Dict.get f n).getD []).length := by
  induction f with
  | nil => rfl
  | cons p f ih =>
    obtain ⟨hf', hp⟩ := hf.tail
    rw [lens_cons, get_cons]
    by_cases e : p.1 = n
    · rw [if_pos e]
      split
      · rename_i h0
        have : hold (lens f) n = 0 := by
          unfold hold
          rw [get_notin (fun h => hp (by rw [e]; exact lens_names h))]
          rfl
        simp [this, h0]
      · rw [hold_cons, if_pos e]
        rfl
    · rw [if_neg e]
      split
      · exact ih hf'
      · rw [hold_cons, if_neg e]
        exact ih hf'

/-! ### acts -/
def eff (a : Deed) (o : Option Bytes) : Option Bytes :=
  if a.kind = 2 then none else if a.kind = 1 then o.map (·.take a.at_) else some (overlay (o.getD []) a.at_ a.b)
theorem get_does (f : Files) (a : Deed) (m : Bytes) : Dict.get (Files.does f a) m = if m = a.name then eff a (Dict.get f m) else Dict.get f m := by
  unfold Files.does eff
  split
  · rw [get_del]
  · split
    · cases hg : Dict.get f a.name with
      | none =>
        simp only
        split
        · rename_i e
          rw [e, hg]
          rfl
        · rfl
      | some x =>
        simp only
        rw [get_put]
        split
        · rename_i e
          rw [e, hg]
          rfl
        · rfl
    · rw [get_put]
      split
      · rename_i e
        rw [e]
      · rfl
theorem does_ok {f : Files} (hf : Dict.Ok f) (a : Deed) : Dict.Ok (Files.does f a) := by
  unfold Files.does
  split
  · exact hf.del _
  · split
    · split
      · exact hf
      · exact hf.put _ _
    · exact hf.put _ _
def effs (l : List Deed) (n : Bytes) (o : Option Bytes) : Option Bytes := (l.filter fun a => a.name == n).foldl (fun o a => eff a o) o
theorem effs_cons (a : Deed) (l : List Deed) (n : Bytes) (o : Option Bytes) : effs (a :: l) n o = effs l n (if n = a.name then eff a o else o) := by
  unfold effs
  rw [List.filter_cons]
  by_cases e : a.name = n
  · simp [e]
  · have e' : ¬ n = a.name := fun h => e h.symm
    simp [e, e']
theorem effs_nil (n : Bytes) (o : Option Bytes) : effs [] n o = o := rfl
theorem effs_append (l m : List Deed) (n : Bytes) (o : Option Bytes) : effs (l ++ m) n o = effs m n (effs l n o) := by
  unfold effs
  rw [List.filter_append, List.foldl_append]
theorem get_dones (l : List Deed) : ∀ (f : Files) (n : Bytes), Dict.get (l.foldl Files.does f) n = effs l n (Dict.get f n) := by
  induction l with
  | nil => intro f n; rfl
  | cons a l ih => intro f n; rw [List.foldl_cons, ih, get_does, effs_cons]
theorem dones_ok (l : List Deed) : ∀ {f : Files}, Dict.Ok f → Dict.Ok (l.foldl Files.does f) := by
  induction l with
  | nil => intro f h; exact h
  | cons a l ih => intro f h; exact ih (does_ok h a)
theorem effs_filter_all (l : List Deed) (q : Deed → Bool) (n : Bytes) (o : Option Bytes) (h : ∀ a ∈ l, a.name = n → q a = true) : effs (l.filter q) n o = effs l n o := by
  unfold effs
  rw [List.filter_filter]
  congr 1
  refine List.filter_congr fun a ha => ?_
  by_cases e : a.name = n
  · simp [e, h a ha e]
  · simp [e]
theorem effs_filter_none (l : List Deed) (q : Deed → Bool) (n : Bytes) (o : Option Bytes) (h : ∀ a ∈ l, a.name = n → q a = false) : effs (l.filter q) n o = o := by
  unfold effs
  rw [List.filter_filter]
  have : (l.filter fun a => (a.name == n) && q a) = [] := by
    rw [List.filter_eq_nil_iff]
    intro a ha
    by_cases e : a.name = n
    · simp [e, h a ha e]
    · simp [e]
  rw [this]
  rfl
theorem overlay_length (old : Bytes) (i : Nat) (b : Bytes) : (overlay old i b).length = max old.length (i + b.length) := by
  unfold overlay
  simp only [List.length_append, List.length_take, List.length_drop, List.length_replicate]
  omega
theorem eff_le {a : Deed} {o : Option Bytes} {k : Nat} (hfit : a.at_ + a.b.length ≤ k) (ho : ∀ x, o = some x → x.length ≤ k) : ∀ x, eff a o = some x → x.length ≤ k := by
  intro x hx
  unfold eff at hx
  split at hx
  · cases hx
  · split at hx
    · cases o with
      | none => cases hx
      | some y =>
        injection hx with hx
        subst hx
        have := ho y rfl
        rw [List.length_take]
        omega
    · injection hx with hx
      subst hx
      rw [overlay_length]
      cases o with
      | none => simp; omega
      | some y =>
        have := ho y rfl
        simp
        omega
theorem effs_le {n : Bytes} {k : Nat} : ∀ {l : List Deed} {o : Option Bytes}, (∀ a ∈ l, a.name = n → a.at_ + a.b.length ≤ k) → (∀ x, o = some x → x.length ≤ k) → ∀ x, effs l n o = some x → x.length ≤ k := by
  intro l
  induction l with
  | nil => intro o _ ho; exact ho
  | cons a l ih =>
    intro o hl ho
    rw [effs_cons]
    refine ih (fun b hb => hl b (by simp [hb])) ?_
    split
    · rename_i e
      exact eff_le (hl a (by simp) e.symm) ho
    · exact ho
theorem effs_some_of {n : Bytes} : ∀ {l : List Deed} {o : Option Bytes}, (effs l n o).isSome = true → o.isSome = true ∨ ∃ a ∈ l, a.name = n := by
  intro l
  induction l with
  | nil => intro o h; exact .inl h
  | cons a l ih =>
    intro o h
    by_cases e : n = a.name
    · exact .inr ⟨a, by simp, e.symm⟩
    · rw [effs_cons, if_neg e] at h
      rcases ih h with h1 | ⟨b, hb, e2⟩
      · exact .inl h1
      · exact .inr ⟨b, by simp [hb], e2⟩

/-! ### a disk -/
structure Dk.Ok (d : Dk) : Prop where
  room : d.room ≤ 16777216
  seenOk : Dict.Ok d.seen
  lastOk : Dict.Ok d.lasting
  heldOk : Dict.Ok d.held
  fits : used d.held ≤ d.room
  seenLe : ∀ n x, Dict.get d.seen n = some x → may n = true ∧ x.length ≤ hold d.held n
  lastLe : ∀ n x, Dict.get d.lasting n = some x → may n = true ∧ x.length ≤ hold d.held n
  pend : ∀ a ∈ d.pending, a.kind ≤ 2 ∧ may a.name = true ∧ a.at_ + a.b.length ≤ hold d.held a.name
  same : ∀ n, Dict.get d.seen n = effs d.pending n (Dict.get d.lasting n)

theorem empty_ok {room : Nat} (h : room ≤ 16777216) : (Dk.empty room).Ok :=
  ⟨h, by simp [Dk.empty, Dict.Ok], by simp [Dk.empty, Dict.Ok], by simp [Dk.empty, Dict.Ok], by simp [Dk.empty, used], by simp [Dk.empty, Dict.get], by simp [Dk.empty, Dict.get], by simp [Dk.empty], by simp [Dk.empty, Dict.get, effs_nil]⟩

section
variable {d : Dk}
theorem Dk.Ok.hold_room (h : d.Ok) (n : Bytes) : hold d.held n ≤ d.room := Nat.le_trans (hold_le h.heldOk n) h.fits
theorem Dk.Ok.act (h : d.Ok) (a : Deed) (hk : a.kind ≤ 2) (hm : may a.name = true) (h1 : a.kind ≠ 0 → a.at_ + a.b.length ≤ hold d.held a.name)
    (h2 : a.kind = 0 → used d.held + (a.at_ + a.b.length) ≤ d.room + hold d.held a.name) : (d.act a).Ok := by
  have hg := get_does d.seen a a.name
  rw [if_pos rfl] at hg
  -- what is held of the name behind it
  have hx : ∀ x, eff a (Dict.get d.seen a.name) = some x → x.length ≤ max (hold d.held a.name) (a.at_ + a.b.length) := eff_le (by omega) (fun x hx => by have := (h.seenLe _ x hx).2; omega)
  have key : ∃ h' : Dict Nat, (d.act a).held = h' ∧ Dict.Ok h' ∧ used h' ≤ d.room ∧ (∀ n, hold d.held n ≤ hold h' n) ∧ a.at_ + a.b.length ≤ hold h' a.name ∧ ∀ x, eff a (Dict.get d.seen a.name) = some x → x.length ≤ hold h' a.name := by
    unfold Dk.act
    rw [hg]
    cases he : eff a (Dict.get d.seen a.name) with
    | none =>
      refine ⟨_, rfl, h.heldOk, h.fits, fun n => Nat.le_refl _, ?_, by simp⟩
      by_cases h0 : a.kind = 0
      · simp [eff, h0] at he
      · exact h1 h0
    | some x =>
      have hu := used_put h.heldOk a.name (max (hold d.held a.name) x.length)
      have hx' := hx x he
      have hfits := h.fits
      refine ⟨_, rfl, h.heldOk.put _ _, ?_, fun n => ?_, ?_, ?_⟩
      · show used (Dict.put d.held a.name (max (hold d.held a.name) x.length)) ≤ _
        by_cases h0 : a.kind = 0
        · have := h2 h0
          omega
        · have := h1 h0
          omega
      · show _ ≤ hold (Dict.put d.held a.name (max (hold d.held a.name) x.length)) n
        rw [hold_put]
        split
        · rename_i e
          rw [e]
          omega
        · exact Nat.le_refl _
      · show _ ≤ hold (Dict.put d.held a.name (max (hold d.held a.name) x.length)) a.name
        rw [hold_put, if_pos rfl]
        by_cases h0 : a.kind = 0
        · have hl : a.at_ + a.b.length ≤ x.length := by
            simp only [eff, h0] at he
            simp at he
            rw [← he, overlay_length]
            omega
          omega
        · have := h1 h0
          omega
      · intro y hy
        injection hy with hy
        subst hy
        show _ ≤ hold (Dict.put d.held a.name (max (hold d.held a.name) x.length)) a.name
        rw [hold_put, if_pos rfl]
        omega
  obtain ⟨h', he, k1, k2, k3, k4, k5⟩ := key
  refine ⟨h.room, does_ok h.seenOk a, h.lastOk, by rw [he]; exact k1, by rw [he]; exact k2, ?_, ?_, ?_, ?_⟩
  · intro n x hx
    rw [he]
    have hx' : Dict.get (Files.does d.seen a) n = some x := hx
    rw [get_does] at hx'
    split at hx'
    · rename_i e
      subst e
      exact ⟨hm, k5 x hx'⟩
    · exact ⟨(h.seenLe n x hx').1, Nat.le_trans (h.seenLe n x hx').2 (k3 n)⟩
  · intro n x hx
    rw [he]
    exact ⟨(h.lastLe n x hx).1, Nat.le_trans (h.lastLe n x hx).2 (k3 n)⟩
  · intro b hb
    rw [he]
    have hb' : b ∈ d.pending ++ [a] := hb
    rcases List.mem_append.1 hb' with hb' | hb'
    · exact ⟨(h.pend b hb').1, (h.pend b hb').2.1, Nat.le_trans (h.pend b hb').2.2 (k3 _)⟩
    · rw [List.mem_singleton.1 hb']
      exact ⟨hk, hm, k4⟩
  · intro n
    show Dict.get (Files.does d.seen a) n = effs (d.pending ++ [a]) n (Dict.get d.lasting n)
    rw [get_does, effs_append, ← h.same n, effs_cons, effs_nil]

theorem Dk.Ok.write (h : d.Ok) (name b : Bytes) : (d.write name b).1.Ok := by
  unfold Dk.write
  split
  · exact h
  · rename_i hm
    have hm' : may name = true := by simpa using hm
    have go : ∀ i, i ≤ hold d.held name → (d.writeAt name i b).1.Ok := by
      intro i hi
      unfold Dk.writeAt
      split
      · exact h
      · rename_i hr
        refine h.act ⟨0, name, i, b⟩ (by simp) hm' (fun h => absurd rfl h) (fun _ => ?_)
        unfold hold
        simp only
        omega
    split
    · split
      · exact h
      · exact go 0 (Nat.zero_le _)
    · rename_i x hx
      exact go x.length (h.seenLe name x hx).2
theorem Dk.Ok.cut (h : d.Ok) (name : Bytes) (n : Int) : (d.cut name n).1.Ok := by
  unfold Dk.cut
  split
  · exact h
  · rename_i hm
    split
    · exact h
    · rename_i x hx
      split
      · exact h
      · rename_i hn
        have := (h.seenLe name x hx).2
        refine h.act ⟨1, name, n.toNat, []⟩ (by simp) (by simpa using hm) (fun _ => ?_) (fun h => by cases h)
        simp only [List.length_nil]
        omega
theorem Dk.Ok.drop (h : d.Ok) (name : Bytes) : (d.drop name).1.Ok := by
  unfold Dk.drop
  split
  · exact h
  · rename_i hm
    split
    · exact h
    · exact h.act ⟨2, name, 0, []⟩ (by simp) (by simpa using hm) (fun _ => by simp) (fun h => by cases h)

theorem hold_freed {h : Dict Nat} {f : Files} {n m : Bytes} : hold (freed h f n) m = if m = n then ((Dict.get f n).getD []).length else hold h m := by
  unfold freed
  cases hg : Dict.get f n with
  | none => simp only; rw [hold_del]; rfl
  | some x =>
    simp only
    split
    · rename_i h0
      rw [hold_del]
      simp [h0]
    · rw [hold_put]
      rfl
theorem freed_ok {h : Dict Nat} (hh : Dict.Ok h) (f : Files) (n : Bytes) : Dict.Ok (freed h f n) := by
  unfold freed
  split
  · exact hh.del _
  · split
    · exact hh.del _
    · exact hh.put _ _
theorem used_freed {h : Dict Nat} (hh : Dict.Ok h) (f : Files) (n : Bytes) : used (freed h f n) + hold h n = used h + ((Dict.get f n).getD []).length := by
  unfold freed
  cases hg : Dict.get f n with
  | none =>
    have := used_del hh n
    simp
    omega
  | some x =>
    simp only
    split
    · have := used_del hh n
      simp
      omega
    · have := used_put hh n x.length
      simp
      omega

theorem Dk.Ok.get_settled (h : d.Ok) (name m : Bytes) : Dict.get (d.settle fun a => a.name == name).lasting m = if m = name then Dict.get d.seen m else Dict.get d.lasting m := by
  show Dict.get ((d.pending.filter fun a => a.name == name).foldl Files.does d.lasting) m = _
  rw [get_dones]
  split
  · rename_i e
    rw [effs_filter_all _ _ _ _ (fun a _ ha => by simp [ha, e]), h.same]
  · rename_i e
    rw [effs_filter_none _ _ _ _ (fun a _ ha => by simpa [ha] using e)]

theorem Dk.Ok.sync (h : d.Ok) (name : Bytes) : (d.sync name).1.Ok := by
  unfold Dk.sync
  split
  · rename_i hl
    have hg := h.get_settled name
    have hf := h.fits
    have hle : ((Dict.get d.seen name).getD []).length ≤ hold d.held name := by
      cases hs : Dict.get d.seen name with
      | none => simp
      | some x => exact (h.seenLe name x hs).2
    have hgn := hg name
    rw [if_pos rfl] at hgn
    have hho : ∀ m, hold (freed d.held (d.settle fun a => a.name == name).lasting name) m = if m = name then ((Dict.get d.seen name).getD []).length else hold d.held m := by
      intro m
      rw [hold_freed, hgn]
    refine ⟨h.room, h.seenOk, dones_ok _ h.lastOk, freed_ok h.heldOk _ _, ?_, ?_, ?_, ?_, ?_⟩
    · have := used_freed h.heldOk (d.settle fun a => a.name == name).lasting name
      rw [hgn] at this
      show used (freed d.held (d.settle fun a => a.name == name).lasting name) ≤ d.room
      omega
    · intro n x hx
      refine ⟨(h.seenLe n x hx).1, ?_⟩
      show _ ≤ hold (freed d.held (d.settle fun a => a.name == name).lasting name) n
      rw [hho]
      split
      · rename_i e
        subst e
        have hx' : Dict.get d.seen n = some x := hx
        rw [hx']
        exact Nat.le_refl _
      · exact (h.seenLe n x hx).2
    · intro n x hx
      have hx' : Dict.get (d.settle fun a => a.name == name).lasting n = some x := hx
      rw [hg] at hx'
      show _ ∧ _ ≤ hold (freed d.held (d.settle fun a => a.name == name).lasting name) n
      rw [hho]
      split at hx'
      · rename_i e
        subst e
        rw [if_pos rfl, hx']
        exact ⟨(h.seenLe n x hx').1, Nat.le_refl _⟩
      · rename_i e
        rw [if_neg e]
        exact h.lastLe n x hx'
    · intro a ha
      have ha' : a ∈ d.pending.filter fun a => !(a.name == name) := ha
      obtain ⟨h1, h2⟩ := List.mem_filter.1 ha'
      refine ⟨(h.pend a h1).1, (h.pend a h1).2.1, ?_⟩
      show _ ≤ hold (freed d.held (d.settle fun a => a.name == name).lasting name) a.name
      rw [hho, if_neg (by simpa using h2)]
      exact (h.pend a h1).2.2
    · intro n
      show Dict.get d.seen n = effs (d.pending.filter fun a => !(a.name == name)) n (Dict.get (d.settle fun a => a.name == name).lasting n)
      rw [hg]
      by_cases e : n = name
      · rw [if_pos e, effs_filter_none _ _ _ _ (fun a _ ha => by simp [ha, e])]
      · rw [if_neg e, effs_filter_all _ _ _ _ (fun a _ ha => by simpa [ha] using e)]
        exact h.same n
  · exact h

theorem rest_ok {d : Dk} {g : Dict Nat} (hr : d.room ≤ 16777216) (hl : Dict.Ok d.lasting) (hg : Dict.Ok g) (hu : used g ≤ d.room) (hp : d.pending = [])
    (hle : ∀ n x, Dict.get d.lasting n = some x → may n = true ∧ x.length ≤ hold g n) : d.rest.Ok := by
  have hb : bytesOf d.lasting ≤ used g := bytesOf_le hl hg fun p hp => (hle p.1 p.2 (get_of_mem hl hp)).2
  have hlen : ∀ n x, Dict.get d.lasting n = some x → may n = true ∧ x.length ≤ hold (lens d.lasting) n := fun n x hx => ⟨(hle n x hx).1, by rw [hold_lens hl, hx]; exact Nat.le_refl _⟩
  refine ⟨hr, hl, hl, ok_lens hl, ?_, hlen, hlen, ?_, ?_⟩
  · show used (lens d.lasting) ≤ d.room
    rw [used_lens]
    omega
  · intro a ha
    have ha' : a ∈ d.pending := ha
    rw [hp] at ha'
    cases ha'
  · intro n
    show Dict.get d.lasting n = effs d.pending n (Dict.get d.lasting n)
    rw [hp, effs_nil]

theorem Dk.Ok.get_flushed (h : d.Ok) (m : Bytes) : Dict.get (d.settle fun _ => true).lasting m = Dict.get d.seen m := by
  show Dict.get ((d.pending.filter fun _ => true).foldl Files.does d.lasting) m = _
  rw [get_dones, effs_filter_all _ _ _ _ (fun _ _ _ => rfl), h.same]
theorem Dk.Ok.flush (h : d.Ok) : d.flush.Ok := by
  refine rest_ok (d := d.settle fun _ => true) (g := d.held) h.room (dones_ok _ h.lastOk) h.heldOk h.fits ?_ (fun n x hx => ?_)
  · show (d.pending.filter fun _ => !true) = []
    simp
  · rw [h.get_flushed] at hx
    exact h.seenLe n x hx

theorem keeps_mem : ∀ {l : List Deed} {ks : List Bool} {a : Deed}, a ∈ keeps l ks → a ∈ l := by
  intro l
  induction l with
  | nil => intro ks a h; cases ks <;> simp [keeps] at h
  | cons b l ih =>
    intro ks a h
    cases ks with
    | nil => simp [keeps] at h
    | cons k ks =>
      simp only [keeps] at h
      split at h
      · rcases List.mem_cons.1 h with h | h
        · simp [h]
        · simp [ih h]
      · simp [ih h]
/-- each act that is kept is one of those, maybe with less bytes. -/
theorem torn_mem {l : List Deed} {tear : Int} {a : Deed} (h : a ∈ torn l tear) : ∃ b ∈ l, a.kind = b.kind ∧ a.name = b.name ∧ a.at_ = b.at_ ∧ a.b.length ≤ b.b.length := by
  unfold torn at h
  split at h
  · cases h
  · rename_i c hc
    split at h
    · rcases List.mem_append.1 h with h | h
      · exact ⟨a, (List.dropLast_sublist _).subset h, rfl, rfl, rfl, Nat.le_refl _⟩
      · rw [List.mem_singleton.1 h]
        refine ⟨c, List.mem_of_getLast? hc, rfl, rfl, rfl, ?_⟩
        simp only [List.length_take]
        omega
    · exact ⟨a, h, rfl, rfl, rfl, Nat.le_refl _⟩
theorem Dk.Ok.kept (h : d.Ok) (keep : List Bool) (tear : Int) : ∀ a ∈ torn (keeps d.pending keep) tear, a.kind ≤ 2 ∧ may a.name = true ∧ a.at_ + a.b.length ≤ hold d.held a.name := by
  intro a ha
  obtain ⟨b, hb, e1, e2, e3, e4⟩ := torn_mem ha
  have := h.pend b (keeps_mem hb)
  rw [e1, e2, e3]
  exact ⟨this.1, this.2.1, by have := this.2.2; omega⟩
theorem dones_le {l : List Deed} {f : Files} {g : Dict Nat} (hl : ∀ a ∈ l, a.kind ≤ 2 ∧ may a.name = true ∧ a.at_ + a.b.length ≤ hold g a.name) (hf : ∀ n x, Dict.get f n = some x → may n = true ∧ x.length ≤ hold g n) :
    ∀ n x, Dict.get (l.foldl Files.does f) n = some x → may n = true ∧ x.length ≤ hold g n := by
  intro n x hx
  rw [get_dones] at hx
  refine ⟨?_, effs_le (fun a ha e => by rw [← e]; exact (hl a ha).2.2) (fun y hy => (hf n y hy).2) x hx⟩
  rcases effs_some_of (by rw [hx]; rfl) with h1 | ⟨a, ha, e⟩
  · obtain ⟨y, hy⟩ := Option.isSome_iff_exists.1 h1
    exact (hf n y hy).1
  · rw [← e]
    exact (hl a ha).2.1
theorem Dk.Ok.crash (h : d.Ok) (keep : List Bool) (tear : Int) : (d.crash keep tear).Ok :=
  rest_ok (d := { d with lasting := (torn (keeps d.pending keep) tear).foldl Files.does d.lasting, pending := [] }) (g := d.held) h.room (dones_ok _ h.lastOk) h.heldOk h.fits rfl (dones_le (h.kept keep tear) h.lastLe)
end
end Go.Proofs.Ytkednbkildkkmaa.Disk
