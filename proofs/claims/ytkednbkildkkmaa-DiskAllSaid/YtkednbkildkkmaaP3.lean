/- disk: what a crash leaves of a file to which only writes were done. No program. -/
import Derived.Test.YtkednbkildkkmaaP2
namespace Go.Proofs.Ytkednbkildkkmaa.Disk

/-- acts that, of this name, only write behind its end. -/
inductive Grows (name : Bytes) : Bytes → List Deed → Bytes → Prop
  | nil (s : Bytes) : Grows name s [] s
  | other (a : Deed) {s t : Bytes} {l : List Deed} : a.name ≠ name → Grows name s l t → Grows name s (a :: l) t
  | one (a : Deed) {s t : Bytes} {l : List Deed} : a.name = name → a.kind = 0 → a.at_ = s.length → Grows name (s ++ a.b) l t → Grows name s (a :: l) t
/-- acts of which some are left out, and some write less. -/
inductive Less : List Deed → List Deed → Prop
  | nil : Less [] []
  | drop (a : Deed) {l m : List Deed} : Less l m → Less (a :: l) m
  | keep (a a' : Deed) {l m : List Deed} (j : Nat) : a' = { a with b := a.b.take j } → Less l m → Less (a :: l) (a' :: m)
theorem Less.refl : ∀ l : List Deed, Less l l
  | [] => .nil
  | a :: l => .keep a a a.b.length (by rw [List.take_length]) (Less.refl l)
theorem Less.trans {l m k : List Deed} (h : Less l m) : Less m k → Less l k := by
  induction h generalizing k with
  | nil => exact id
  | drop a _ ih => intro h2; exact .drop a (ih h2)
  | keep a a' j e _ ih =>
    intro h2
    cases h2 with
    | drop _ h3 => exact .drop a (ih h3)
    | keep _ a2 j2 e2 h3 =>
      refine .keep a a2 (min j2 j) ?_ (ih h3)
      rw [e2, e]
      simp only
      rw [List.take_take]
theorem less_keeps : ∀ (l : List Deed) (ks : List Bool), Less l (keeps l ks)
  | [], ks => by rw [keeps_nil]; exact .nil
  | a :: l, [] => by
    have := less_keeps l []
    rw [keeps_none] at this ⊢
    exact .drop a this
  | a :: l, k :: ks => by
    simp only [keeps]
    split
    · exact .keep a a a.b.length (by rw [List.take_length]) (less_keeps l ks)
    · exact .drop a (less_keeps l ks)
theorem Less.front (m : List Deed) {l k : List Deed} (h : Less l k) : Less (m ++ l) (m ++ k) := by
  induction m with
  | nil => exact h
  | cons a m ih => exact .keep a a a.b.length (by rw [List.take_length]) ih
theorem less_torn (l : List Deed) (tear : Int) : Less l (torn l tear) := by
  unfold torn
  cases hl : l.getLast? with
  | none =>
    rw [List.getLast?_eq_none_iff] at hl
    rw [hl]
    exact .nil
  | some a =>
    simp only
    split
    · obtain ⟨m, rfl⟩ := List.getLast?_eq_some_iff.1 hl
      rw [List.dropLast_concat]
      exact Less.front m (.keep a _ _ rfl .nil)
    · exact Less.refl l
theorem less_torn_keeps (l : List Deed) (ks : List Bool) (tear : Int) : Less l (torn (keeps l ks) tear) := (less_keeps l ks).trans (less_torn _ tear)

theorem Grows.snoc_other {name s t : Bytes} {l : List Deed} (h : Grows name s l t) {a : Deed} (ha : a.name ≠ name) : Grows name s (l ++ [a]) t := by
  induction h with
  | nil s => exact .other a ha (.nil s)
  | other b hb _ ih => exact .other b hb ih
  | one b hb hk hat _ ih => exact .one b hb hk hat ih
theorem Grows.snoc_one {name s t : Bytes} {l : List Deed} (h : Grows name s l t) {a : Deed} (ha : a.name = name) (hk : a.kind = 0) (hat : a.at_ = t.length) : Grows name s (l ++ [a]) (t ++ a.b) := by
  induction h with
  | nil s => exact .one a ha hk hat (.nil _)
  | other b hb _ ih => exact .other b hb (ih hat)
  | one b hb hk' hat' _ ih => exact .one b hb hk' hat' (ih hat)
theorem grows_others {name s : Bytes} : ∀ {l : List Deed}, (∀ a ∈ l, a.name ≠ name) → Grows name s l s
  | [], _ => .nil s
  | a :: l, h => .other a (h a (by simp)) (grows_others fun b hb => h b (by simp [hb]))

/-- k is a beginning of s behind which there may be noughts. -/
structure Under (was k s : Bytes) : Prop where
  le : k.length ≤ s.length
  pre : was <+: k
  each : ∀ i x, k[i]? = some x → s[i]? = some x ∨ (x = 0 ∧ was.length ≤ i)
theorem Under.wider {was k s : Bytes} (h : Under was k s) (b : Bytes) : Under was k (s ++ b) :=
  ⟨by rw [List.length_append]; have := h.le; omega, h.pre, fun i x hx => by
    rcases h.each i x hx with h1 | h1
    · left
      have hi : i < s.length := (List.getElem?_eq_some_iff.1 h1).1
      rw [List.getElem?_append_left hi]
      exact h1
    · exact .inr h1⟩
theorem Under.over {was k s : Bytes} (h : Under was k s) (b : Bytes) (j : Nat) : Under was (overlay k s.length (b.take j)) (s ++ b) := by
  have hl := overlay_length k s.length (b.take j)
  have hle := h.le
  have hpl : (k ++ List.replicate (s.length + (b.take j).length - k.length) 0).length = s.length + (b.take j).length := by simp; omega
  have hov : overlay k s.length (b.take j) = k ++ (List.replicate (s.length - k.length) 0 ++ b.take j) := by
    unfold overlay
    rw [List.drop_eq_nil_of_le (by omega), List.append_nil, List.take_append, List.take_of_length_le hle, List.take_replicate, List.append_assoc]
    congr 3
    omega
  refine ⟨?_, ?_, fun i x hx => ?_⟩
  · rw [hl, List.length_append, List.length_take]
    omega
  · rw [hov]
    exact h.pre.trans (List.prefix_append _ _)
  · rw [hov] at hx
    by_cases h1 : i < k.length
    · rw [List.getElem?_append_left h1] at hx
      exact (h.wider b).each i x hx
    · rw [List.getElem?_append_right (by omega)] at hx
      by_cases h2 : i < s.length
      · rw [List.getElem?_append_left (by simp; omega), List.getElem?_replicate] at hx
        split at hx
        · injection hx with hx
          have := h.pre.length_le
          exact .inr ⟨hx.symm, by omega⟩
        · cases hx
      · rw [List.getElem?_append_right (by simp; omega)] at hx
        left
        rw [List.getElem?_append_right (by omega)]
        rw [List.getElem?_take] at hx
        split at hx
        · rw [← hx]
          congr 1
          simp
          omega
        · cases hx

theorem under_all {name was : Bytes} {s t : Bytes} {l : List Deed} (h : Grows name s l t) : ∀ {m : List Deed} {k : Bytes}, Less l m → Under was k s → ∃ k', effs m name (some k) = some k' ∧ Under was k' t := by
  induction h with
  | nil s =>
    intro m k hm hk
    cases hm
    exact ⟨k, rfl, hk⟩
  | other a ha _ ih =>
    intro m k hm hk
    cases hm with
    | drop _ h1 => exact ih h1 hk
    | keep _ a' j e h1 =>
      rw [effs_cons, if_neg (by rw [e]; exact fun h => ha h.symm)]
      exact ih h1 hk
  | one a ha hkd hat _ ih =>
    intro m k hm hk
    cases hm with
    | drop _ h1 => exact ih h1 (hk.wider _)
    | keep _ a' j e h1 =>
      rw [effs_cons, if_pos (by rw [e]; exact ha.symm)]
      have he : eff a' (some k) = some (overlay k a.at_ (a.b.take j)) := by
        rw [e]
        unfold eff
        rw [if_neg (by simp [hkd]), if_neg (by simp [hkd])]
        rfl
      rw [he]
      refine ih h1 ?_
      rw [hat]
      exact hk.over _ _

/-- what always holds between the sync and the crash. -/
structure BeginAt (name was : Bytes) (d : Dk) (s : Bytes) : Prop where
  ok : d.Ok
  last : Dict.get d.lasting name = some was
  seen : Dict.get d.seen name = some s
  grows : Grows name was d.pending s

theorem begin_at {d : Dk} (h : d.Ok) {name : Bytes} (hs : (d.sync name).2 = 0) : ∃ was, (d.sync name).1.read name = (was, 0) ∧ BeginAt name was (d.sync name).1 was := by
  have h0 : d.look name = 0 := by rw [← sync_err]; exact hs
  obtain ⟨x, hx⟩ := (look_ok h).1 h0
  have hok := h.sync name
  have hseen : Dict.get (d.sync name).1.seen name = some x := by rw [sync_seen]; exact hx
  refine ⟨x, by rw [hok.read_of, hseen], hok, ?_, hseen, ?_⟩
  · rw [sync_lasting h name h0, if_pos rfl, hx]
  · refine grows_others fun a ha => ?_
    unfold Dk.sync at ha
    rw [if_pos h0] at ha
    have ha' : a ∈ d.pending.filter fun a => !(a.name == name) := ha
    simpa using (List.mem_filter.1 ha').2
theorem BeginAt.act_other {name was s : Bytes} {d : Dk} (h : BeginAt name was d s) {a : Deed} (hok : (d.act a).Ok) (ha : a.name ≠ name) : BeginAt name was (d.act a) s :=
  ⟨hok, h.last, by rw [Disk.act_other d a (fun e => ha e.symm)]; exact h.seen, h.grows.snoc_other ha⟩
theorem BeginAt.write {name was s : Bytes} {d : Dk} (h : BeginAt name was d s) (n b : Bytes) : ∃ t, BeginAt name was (d.write n b).1 t := by
  have hok := h.ok.write n b
  rcases write_cases d n b with ⟨e, -, he⟩ | he
  · rw [he]
    exact ⟨s, h⟩
  · rw [he] at hok ⊢
    by_cases e : n = name
    · subst e
      rw [h.seen] at hok ⊢
      refine ⟨s ++ b, hok, h.last, ?_, h.grows.snoc_one rfl rfl rfl⟩
      have := act_write_seen d n b n
      rw [if_pos rfl, h.seen] at this
      exact this
    · exact ⟨s, h.act_other hok e⟩
theorem BeginAt.call {name was s : Bytes} {d : Dk} (h : BeginAt name was d s) (k : Do) (h5 : k.o8 < 5) (hn : k.name = name → k.o8 ≠ 3 ∧ k.o8 ≠ 4) : ∃ t, BeginAt name was (d.call k).1 t := by
  have hok := h.ok.call k
  unfold Dk.call at hok ⊢
  split
  · rename_i h3
    rw [if_pos h3] at hok
    have hne : k.name ≠ name := fun e => (hn e).1 h3
    rcases cut_cases d k.name k.n with ⟨e, -, he⟩ | ⟨a, -, ha, he⟩
    · rw [he]; exact ⟨s, h⟩
    · rw [he] at hok ⊢; exact ⟨s, h.act_other hok (by rw [ha]; exact hne)⟩
  · rename_i h3
    rw [if_neg h3] at hok
    split
    · rename_i h4
      rw [if_pos h4] at hok
      have hne : k.name ≠ name := fun e => (hn e).2 h4
      rcases drop_cases d k.name with ⟨e, -, he⟩ | ⟨a, -, ha, he⟩
      · rw [he]; exact ⟨s, h⟩
      · rw [he] at hok ⊢; exact ⟨s, h.act_other hok (by rw [ha]; exact hne)⟩
    · rw [if_neg (by omega), if_neg (by omega), if_neg (by omega)]
      exact h.write _ _
theorem BeginAt.seen_read {name was s : Bytes} {d : Dk} (h : BeginAt name was d s) : d.read name = (s, 0) := by rw [h.ok.read_of, h.seen]
theorem BeginAt.crash {name was s : Bytes} {d : Dk} (h : BeginAt name was d s) (keep : List Bool) (tear : Int) : ∃ now, (d.crash keep tear).read name = (now, 0) ∧ Under was now s := by
  have h0 : Under was was was := ⟨Nat.le_refl _, List.prefix_refl _, fun _ _ h => .inl h⟩
  obtain ⟨now, h1, h2⟩ := under_all h.grows (less_torn_keeps d.pending keep tear) h0
  refine ⟨now, ?_, h2⟩
  rw [(h.ok.crash keep tear).read_of]
  have hg : Dict.get (d.crash keep tear).seen name = some now := by
    show Dict.get ((torn (keeps d.pending keep) tear).foldl Files.does d.lasting) name = _
    rw [get_dones, h.last]
    exact h1
  rw [hg]
end Go.Proofs.Ytkednbkildkkmaa.Disk
