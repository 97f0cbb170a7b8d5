/- kvstore, plain: items by keys, commits, what is told. No program. -/
import Derived.Test.YtdbhccehbjhbpaaGreatDoorM3
namespace Go.Proofs.YtdbhccehbjhbpaaGreatDoor
open Disk (Dk Dict leB get_put get_del)
open Slog (Lg numB)
namespace Kv
abbrev Bytes := Disk.Bytes

structure KOp where
  key : Bytes
  gone : Bool
  value : Bytes
/-- what a key has. -/
structure It where
  gone : Bool
  value : Bytes
  at_ : Nat
deriving DecidableEq
def KOp.it (o : KOp) (v : Nat) : It := ⟨o.gone, o.value, v⟩

/-- the first error of one op, behind these keys. -/
def err1 (seen : List Bytes) (o : KOp) : Int :=
  if o.key = [] ∨ 128 < o.key.length then 6 else if o.gone = true ∧ o.value ≠ [] then 1 else if 4096 < o.value.length then 4 else if o.key ∈ seen then 61 else 0
def errs (seen : List Bytes) : List KOp → Int
  | [] => 0
  | o :: l => if err1 seen o = 0 then errs (o.key :: seen) l else err1 seen o
def check (ops : List KOp) : Int := if ops.length = 0 ∨ 256 < ops.length then 1 else errs [] ops

def told (gone : Bool) (v : Bytes) : Bytes := if gone = true then [1] else 0 :: numB v.length ++ v
def KOp.enc (o : KOp) : Bytes := numB o.key.length ++ o.key ++ told o.gone o.value
def enc (v : Nat) (ops : List KOp) : Bytes := [1] ++ numB v ++ numB ops.length ++ (ops.map KOp.enc).flatten

abbrev Items := Dict It
def putAll (d : Items) (v : Nat) (ops : List KOp) : Items := ops.foldl (fun d o => Dict.put d o.key (o.it v)) d

structure St where
  dk : Dk
  lg : Lg
  items : Items
  version : Nat
  synced : Nat

def St.commit (s : St) (ops : List KOp) : St × Int × Int :=
  if check ops = 0 then
    (let r := Slog.append s.dk s.lg (enc (s.version + 1) ops)
     if r.2.2.2 = 0 then (⟨r.1, r.2.1, putAll s.items (s.version + 1) ops, s.version + 1, s.synced⟩, ((s.version + 1 : Nat) : Int), 0)
     else (⟨r.1, r.2.1, s.items, s.version, s.synced⟩, 0, r.2.2.2))
  else (s, 0, check ops)

def get (d : Items) (k : Bytes) : Option It :=
  match Dict.get d k with
  | none => none
  | some x => if x.gone = true then none else some x

/-- those of these keys that are asked for. -/
def pick (d : Items) (f : Bytes → It → Bool) (ks : List Bytes) : List (Bytes × It) :=
  ks.filterMap fun k => match Dict.get d k with
    | none => none
    | some x => if f k x = true then some (k, x) else none
def rising (d : Items) (f : Bytes → It → Bool) : List (Bytes × It) := pick d f ((d.map (·.1)).mergeSort leB)
def inScan (a b : Bytes) (k : Bytes) (x : It) : Bool := !x.gone && decide (a ≤ k) && (decide (b = []) || decide (k < b))
def scan (d : Items) (a b : Bytes) : List (Bytes × It) := rising d (inScan a b)
def since (d : Items) (v : Int) : List (Bytes × It) := rising d fun _ x => decide (v < (x.at_ : Int))

/-! ### what a store keeps to -/
structure ItemsOk (d : Items) (v : Nat) : Prop where
  ok : Dict.Ok d
  each : ∀ k x, Dict.get d k = some x → k ≠ [] ∧ k.length ≤ 128 ∧ x.value.length ≤ 4096 ∧ 1 ≤ x.at_ ∧ x.at_ ≤ v ∧ (x.gone = true → x.value = [])
  many : d.length ≤ 256 * v
theorem ItemsOk.nil : ItemsOk [] 0 := ⟨List.nodup_nil, fun k x h => (by cases h), by simp⟩

/-- keys that are written once each, and may be. -/
structure OpsOk (seen : List Bytes) (ops : List KOp) : Prop where
  each : ∀ o ∈ ops, o.key ≠ [] ∧ o.key.length ≤ 128 ∧ o.value.length ≤ 4096 ∧ (o.gone = true → o.value = []) ∧ o.key ∉ seen
  once : (ops.map (·.key)).Nodup
theorem err1_zero {seen : List Bytes} {o : KOp} (h : err1 seen o = 0) : o.key ≠ [] ∧ o.key.length ≤ 128 ∧ o.value.length ≤ 4096 ∧ (o.gone = true → o.value = []) ∧ o.key ∉ seen := by
  unfold err1 at h
  split at h
  · cases h
  · rename_i h1
    split at h
    · cases h
    · rename_i h2
      split at h
      · cases h
      · rename_i h3
        split at h
        · cases h
        · rename_i h4
          refine ⟨fun e => h1 (.inl e), by omega, by omega, fun hg => ?_, h4⟩
          by_cases hv : o.value = []
          · exact hv
          · exact absurd ⟨hg, hv⟩ h2
theorem errs_zero : ∀ {ops : List KOp} {seen : List Bytes}, errs seen ops = 0 → OpsOk seen ops := by
  intro ops
  induction ops with
  | nil => intro seen _; exact ⟨fun o h => (by cases h), List.nodup_nil⟩
  | cons o l ih =>
    intro seen h
    unfold errs at h
    split at h
    · rename_i h1
      obtain ⟨e1, e2⟩ := ih h
      have e3 := err1_zero h1
      refine ⟨fun x hx => ?_, ?_⟩
      · rcases List.mem_cons.1 hx with rfl | hx
        · exact e3
        · obtain ⟨a, b, c, d, e⟩ := e1 x hx
          exact ⟨a, b, c, d, fun h => e (List.mem_cons_of_mem _ h)⟩
      · rw [List.map_cons, List.nodup_cons]
        refine ⟨fun hm => ?_, e2⟩
        obtain ⟨x, hx, e⟩ := List.mem_map.1 hm
        exact (e1 x hx).2.2.2.2 (by rw [e]; exact List.mem_cons_self)
    · rename_i h1
      exact absurd h h1
theorem check_zero {ops : List KOp} (h : check ops = 0) : 0 < ops.length ∧ ops.length ≤ 256 ∧ OpsOk [] ops := by
  unfold check at h
  split at h
  · cases h
  · rename_i h1
    exact ⟨by omega, by omega, errs_zero h⟩

theorem putAll_cons (d : Items) (v : Nat) (o : KOp) (ops : List KOp) : putAll d v (o :: ops) = putAll (Dict.put d o.key (o.it v)) v ops := rfl
theorem putAll_ok {v : Nat} : ∀ (ops : List KOp) (d : Items), Dict.Ok d → Dict.Ok (putAll d v ops) := by
  intro ops
  induction ops with
  | nil => intro d h; exact h
  | cons o l ih => intro d h; rw [putAll_cons]; exact ih _ (h.put _ _)
theorem putAll_other {v : Nat} {k : Bytes} : ∀ (ops : List KOp) (d : Items), (∀ o ∈ ops, o.key ≠ k) → Dict.get (putAll d v ops) k = Dict.get d k := by
  intro ops
  induction ops with
  | nil => intro d _; rfl
  | cons o l ih =>
    intro d h
    rw [putAll_cons, ih _ (fun x hx => h x (List.mem_cons_of_mem _ hx)), get_put, if_neg (fun e => h o List.mem_cons_self e.symm)]
theorem putAll_in {v : Nat} : ∀ (ops : List KOp) (d : Items), (ops.map (·.key)).Nodup → ∀ o ∈ ops, Dict.get (putAll d v ops) o.key = some (o.it v) := by
  intro ops
  induction ops with
  | nil => intro d _ o h; cases h
  | cons p l ih =>
    intro d h o ho
    rw [List.map_cons, List.nodup_cons] at h
    rw [putAll_cons]
    rcases List.mem_cons.1 ho with rfl | ho
    · rw [putAll_other l _ (fun x hx e => h.1 (List.mem_map.2 ⟨x, hx, e⟩)), get_put, if_pos rfl]
    · exact ih _ h.2 o ho
theorem putAll_some {v : Nat} {k : Bytes} {x : It} (ops : List KOp) (d : Items) (hn : (ops.map (·.key)).Nodup) (h : Dict.get (putAll d v ops) k = some x) : (∃ o ∈ ops, o.key = k ∧ x = o.it v) ∨ Dict.get d k = some x := by
  by_cases hk : ∃ o ∈ ops, o.key = k
  · obtain ⟨o, ho, e⟩ := hk
    left
    refine ⟨o, ho, e, ?_⟩
    have := putAll_in (v := v) ops d hn o ho
    rw [e, h] at this
    exact Option.some.inj this
  · right
    rw [putAll_other ops d (fun o ho e => hk ⟨o, ho, e⟩)] at h
    exact h
theorem putAll_length {v : Nat} : ∀ (ops : List KOp) (d : Items), (putAll d v ops).length ≤ d.length + ops.length := by
  intro ops
  induction ops with
  | nil => intro d; exact Nat.le_refl _
  | cons o l ih =>
    intro d
    rw [putAll_cons]
    have h1 := ih (Dict.put d o.key (o.it v))
    have h2 : (Dict.put d o.key (o.it v)).length ≤ d.length + 1 := by
      unfold Dict.put Dict.del
      rw [List.length_cons]
      exact Nat.succ_le_succ (List.length_filter_le _ d)
    rw [List.length_cons]
    omega
theorem ItemsOk.putAll {d : Items} {v : Nat} (h : ItemsOk d v) {ops : List KOp} (ho : OpsOk [] ops) (hl : ops.length ≤ 256) : ItemsOk (putAll d (v + 1) ops) (v + 1) := by
  refine ⟨putAll_ok ops d h.ok, fun k x hk => ?_, ?_⟩
  · rcases putAll_some ops d ho.once hk with ⟨o, hm, e, rfl⟩ | h1
    · obtain ⟨a, b, c, g, -⟩ := ho.each o hm
      rw [← e]
      exact ⟨a, b, c, Nat.le_add_left _ _, Nat.le_refl _, g⟩
    · obtain ⟨a, b, c, g, i, j⟩ := h.each k x h1
      exact ⟨a, b, c, g, by omega, j⟩
  · have := putAll_length (v := v + 1) ops d
    have := h.many
    rw [Nat.mul_add, Nat.mul_one]
    omega

theorem bytesOf_len (k x : Nat) : (Slog.bytesOf k x).length = k := by
  induction k with
  | zero => rfl
  | succ k ih => show (_ :: Slog.bytesOf k x).length = _; rw [List.length_cons, ih]
theorem numB_len {n : Nat} (h : n < 65536) : (numB n).length ≤ 3 := by
  unfold numB
  split
  · simp
  · have hw : Slog.width n ≤ 2 := by unfold Slog.width; split <;> omega
    rw [List.length_cons, bytesOf_len]
    omega
theorem told_len {g : Bool} {v : Bytes} (h : v.length ≤ 4096) : (told g v).length ≤ 4100 := by
  unfold told
  have := numB_len (n := v.length) (by omega)
  split
  · simp
  · simp; omega
theorem encs_len (ops : List KOp) (h : ∀ o ∈ ops, o.key.length ≤ 128 ∧ o.value.length ≤ 4096) : ((ops.map KOp.enc).flatten).length ≤ 4231 * ops.length := by
  induction ops with
  | nil => simp
  | cons o l ih =>
    have h1 := ih fun x hx => h x (List.mem_cons_of_mem _ hx)
    obtain ⟨h2, h3⟩ := h o List.mem_cons_self
    have h4 := told_len (g := o.gone) h3
    have h5 := numB_len (n := o.key.length) (by omega)
    rw [List.map_cons, List.flatten_cons, List.length_append, List.length_cons]
    have h6 : o.enc.length ≤ 4231 := by unfold KOp.enc; rw [List.length_append, List.length_append]; omega
    omega

/-- WHAT HOLDS BETWEEN CALLS. -/
structure Good (s : St) : Prop where
  log : Slog.Good s.dk s.lg
  items : ItemsOk s.items s.version
  next : s.version + 1 ≤ s.lg.next
  synced : s.synced ≤ s.version
theorem Good.commit {s : St} (h : Good s) (hn : s.lg.next ≤ 246) (ops : List KOp) : Good (s.commit ops).1 ∧ (s.commit ops).1.lg.next ≤ s.lg.next + 1 := by
  unfold St.commit
  by_cases hc : check ops = 0
  · rw [if_pos hc]
    obtain ⟨h1, h2, h3⟩ := check_zero hc
    obtain ⟨g, a⟩ := h.log.append hn (enc (s.version + 1) ops)
    have h4 := h.next
    have h5 := h.synced
    by_cases he : (Slog.append s.dk s.lg (enc (s.version + 1) ops)).2.2.2 = 0
    · simp only [if_pos he]
      obtain ⟨-, e2, -⟩ := a.done he
      exact ⟨⟨g, h.items.putAll h3 h2, by show s.version + 1 + 1 ≤ Lg.next _; rw [e2]; omega, by show s.synced ≤ s.version + 1; omega⟩, by show Lg.next _ ≤ _; rw [e2]; exact Nat.le_refl _⟩
    · simp only [if_neg he]
      obtain ⟨-, e2, -⟩ := a.not he
      exact ⟨⟨g, h.items, by show s.version + 1 ≤ Lg.next _; rw [e2]; omega, h5⟩, by show Lg.next _ ≤ _; rw [e2]; omega⟩
  · rw [if_neg hc]
    exact ⟨h, Nat.le_succ _⟩
def St.play (s : St) (l : List (List KOp)) : St := l.foldl (fun s ops => (s.commit ops).1) s
theorem St.play_snoc (s : St) (l : List (List KOp)) (ops : List KOp) : s.play (l ++ [ops]) = ((s.play l).commit ops).1 := by unfold St.play; rw [List.foldl_append]; rfl
theorem Good.play {s : St} (h : Good s) : ∀ (l : List (List KOp)), s.lg.next + l.length ≤ 246 → Good (s.play l) ∧ (s.play l).lg.next ≤ s.lg.next + l.length := by
  intro l
  induction l generalizing s with
  | nil => intro _; exact ⟨h, Nat.le_refl _⟩
  | cons ops l ih =>
    intro hl
    rw [List.length_cons] at hl
    obtain ⟨h1, h2⟩ := h.commit (by omega) ops
    obtain ⟨h3, h4⟩ := ih h1 (by omega)
    rw [List.length_cons]
    exact ⟨h3, by show ((s.commit ops).1.play l).lg.next ≤ _; omega⟩
end Kv
end Go.Proofs.YtdbhccehbjhbpaaGreatDoor
