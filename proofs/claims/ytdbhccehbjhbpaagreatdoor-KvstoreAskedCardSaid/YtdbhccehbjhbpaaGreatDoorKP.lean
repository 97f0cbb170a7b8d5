/- kvstore: a law. (Several texts in one file, by mz.py.) -/
import Derived.Test.YtdbhccehbjhbpaaGreatDoorM3

/- kvstore, plain: items by keys, commits, what is told. No program. -/
namespace Go.Proofs.YtdbhccehbjhbpaaGreatDoor
open Disk (Dk Dict leB get_put get_del)
open Slog (Lg numB)
namespace Kv
abbrev Bytes := Disk.Bytes

structure KOp where
  key : Bytes
  gone : Bool
  value : Bytes
/-- what a key has. -/
structure It where
  gone : Bool
  value : Bytes
  at_ : Nat
deriving DecidableEq
def KOp.it (o : KOp) (v : Nat) : It := ⟨o.gone, o.value, v⟩

/-- the first error of one op, behind these keys. -/
def err1 (seen : List Bytes) (o : KOp) : Int :=
  if o.key = [] ∨ 128 < o.key.length then 6 else if o.gone = true ∧ o.value ≠ [] then 1 else if 4096 < o.value.length then 4 else if o.key ∈ seen then 61 else 0
def errs (seen : List Bytes) : List KOp → Int
  | [] => 0
  | o :: l => if err1 seen o = 0 then errs (o.key :: seen) l else err1 seen o
def check (ops : List KOp) : Int := if ops.length = 0 ∨ 256 < ops.length then 1 else errs [] ops

def told (gone : Bool) (v : Bytes) : Bytes := if gone = true then [1] else 0 :: numB v.length ++ v
def KOp.enc (o : KOp) : Bytes := numB o.key.length ++ o.key ++ told o.gone o.value
def enc (v : Nat) (ops : List KOp) : Bytes := [1] ++ numB v ++ numB ops.length ++ (ops.map KOp.enc).flatten

abbrev Items := Dict It
def putAll (d : Items) (v : Nat) (ops : List KOp) : Items := ops.foldl (fun d o => Dict.put d o.key (o.it v)) d

structure St where
  dk : Dk
  lg : Lg
  items : Items
  version : Nat
  synced : Nat

def St.commit (s : St) (ops : List KOp) : St × Int × Int :=
  if check ops = 0 then
    (let r := Slog.append s.dk s.lg (enc (s.version + 1) ops)
     if r.2.2.2 = 0 then (⟨r.1, r.2.1, putAll s.items (s.version + 1) ops, s.version + 1, s.synced⟩, ((s.version + 1 : Nat) : Int), 0)
     else (⟨r.1, r.2.1, s.items, s.version, s.synced⟩, 0, r.2.2.2))
  else (s, 0, check ops)

def get (d : Items) (k : Bytes) : Option It :=
  match Dict.get d k with
  | none => none
  | some x => if x.gone = true then none else some x

/-- those of these keys that are asked for. -/
def pick (d : Items) (f : Bytes → It → Bool) (ks : List Bytes) : List (Bytes × It) :=
  ks.filterMap fun k => match Dict.get d k with
    | none => none
    | some x => if f k x = true then some (k, x) else none
def rising (d : Items) (f : Bytes → It → Bool) : List (Bytes × It) := pick d f ((d.map (·.1)).mergeSort leB)
def inScan (a b : Bytes) (k : Bytes) (x : It) : Bool := !x.gone && decide (a ≤ k) && (decide (b = []) || decide (k < b))
def scan (d : Items) (a b : Bytes) : List (Bytes × It) := rising d (inScan a b)
def since (d : Items) (v : Int) : List (Bytes × It) := rising d fun _ x => decide (v < (x.at_ : Int))

/-! ### what a store keeps to -/
structure ItemsOk (d : Items) (v : Nat) : Prop where
  ok : Dict.Ok d
  each : ∀ k x, Dict.get d k = some x → k ≠ [] ∧ k.length ≤ 128 ∧ x.value.length ≤ 4096 ∧ 1 ≤ x.at_ ∧ x.at_ ≤ v ∧ (x.gone = true → x.value = [])
  many : d.length ≤ 256 * v
theorem ItemsOk.nil : ItemsOk [] 0 := ⟨List.nodup_nil, fun k x h => (by cases h), by simp⟩

/-- keys that are written once each, and may be. -/
structure OpsOk (seen : List Bytes) (ops : List KOp) : Prop where
  each : ∀ o ∈ ops, o.key ≠ [] ∧ o.key.length ≤ 128 ∧ o.value.length ≤ 4096 ∧ (o.gone = true → o.value = []) ∧ o.key ∉ seen
  once : (ops.map (·.key)).Nodup
theorem err1_zero {seen : List Bytes} {o : KOp} (h : err1 seen o = 0) : o.key ≠ [] ∧ o.key.length ≤ 128 ∧ o.value.length ≤ 4096 ∧ (o.gone = true → o.value = []) ∧ o.key ∉ seen := by
  unfold err1 at h
  split at h
  · cases h
  · rename_i h1
    split at h
    · cases h
    · rename_i h2
      split at h
      · cases h
      · rename_i h3
        split at h
        · cases h
        · rename_i h4
          refine ⟨fun e => h1 (.inl e), by omega, by omega, fun hg => ?_, h4⟩
          by_cases hv : o.value = []
          · exact hv
          · exact absurd ⟨hg, hv⟩ h2
theorem errs_zero : ∀ {ops : List KOp} {seen : List Bytes}, errs seen ops = 0 → OpsOk seen ops := by
  intro ops
  induction ops with
  | nil => intro seen _; exact ⟨fun o h => (by cases h), List.nodup_nil⟩
  | cons o l ih =>
    intro seen h
    unfold errs at h
    split at h
    · rename_i h1
      obtain ⟨e1, e2⟩ := ih h
      have e3 := err1_zero h1
      refine ⟨fun x hx => ?_, ?_⟩
      · rcases List.mem_cons.1 hx with rfl | hx
        · exact e3
        · obtain ⟨a, b, c, d, e⟩ := e1 x hx
          exact ⟨a, b, c, d, fun h => e (List.mem_cons_of_mem _ h)⟩
      · rw [List.map_cons, List.nodup_cons]
        refine ⟨fun hm => ?_, e2⟩
        obtain ⟨x, hx, e⟩ := List.mem_map.1 hm
        exact (e1 x hx).2.2.2.2 (by rw [e]; exact List.mem_cons_self)
    · rename_i h1
      exact absurd h h1
theorem check_zero {ops : List KOp} (h : check ops = 0) : 0 < ops.length ∧ ops.length ≤ 256 ∧ OpsOk [] ops := by
  unfold check at h
  split at h
  · cases h
  · rename_i h1
    exact ⟨by omega, by omega, errs_zero h⟩

theorem putAll_cons (d : Items) (v : Nat) (o : KOp) (ops : List KOp) : putAll d v (o :: ops) = putAll (Dict.put d o.key (o.it v)) v ops := rfl
theorem putAll_ok {v : Nat} : ∀ (ops : List KOp) (d : Items), Dict.Ok d → Dict.Ok (putAll d v ops) := by
  intro ops
  induction ops with
  | nil => intro d h; exact h
  | cons o l ih => intro d h; rw [putAll_cons]; exact ih _ (h.put _ _)
theorem putAll_other {v : Nat} {k : Bytes} : ∀ (ops : List KOp) (d : Items), (∀ o ∈ ops, o.key ≠ k) → Dict.get (putAll d v ops) k = Dict.get d k := by
  intro ops
  induction ops with
  | nil => intro d _; rfl
  | cons o l ih =>
    intro d h
    rw [putAll_cons, ih _ (fun x hx => h x (List.mem_cons_of_mem _ hx)), get_put, if_neg (fun e => h o List.mem_cons_self e.symm)]
theorem putAll_in {v : Nat} : ∀ (ops : List KOp) (d : Items), (ops.map (·.key)).Nodup → ∀ o ∈ ops, Dict.get (putAll d v ops) o.key = some (o.it v) := by
  intro ops
  induction ops with
  | nil => intro d _ o h; cases h
  | cons p l ih =>
    intro d h o ho
    rw [List.map_cons, List.nodup_cons] at h
    rw [putAll_cons]
    rcases List.mem_cons.1 ho with rfl | ho
    · rw [putAll_other l _ (fun x hx e => h.1 (List.mem_map.2 ⟨x, hx, e⟩)), get_put, if_pos rfl]
    · exact ih _ h.2 o ho
theorem putAll_some {v : Nat} {k : Bytes} {x : It} (ops : List KOp) (d : Items) (hn : (ops.map (·.key)).Nodup) (h : Dict.get (putAll d v ops) k = some x) : (∃ o ∈ ops, o.key = k ∧ x = o.it v) ∨ Dict.get d k = some x := by
  by_cases hk : ∃ o ∈ ops, o.key = k
  · obtain ⟨o, ho, e⟩ := hk
    left
    refine ⟨o, ho, e, ?_⟩
    have := putAll_in (v := v) ops d hn o ho
    rw [e, h] at this
    exact Option.some.inj this
  · right
    rw [putAll_other ops d (fun o ho e => hk ⟨o, ho, e⟩)] at h
    exact h
theorem putAll_length {v : Nat} : ∀ (ops : List KOp) (d : Items), (putAll d v ops).length ≤ d.length + ops.length := by
  intro ops
  induction ops with
  | nil => intro d; exact Nat.le_refl _
  | cons o l ih =>
    intro d
    rw [putAll_cons]
    have h1 := ih (Dict.put d o.key (o.it v))
    have h2 : (Dict.put d o.key (o.it v)).length ≤ d.length + 1 := by
      unfold Dict.put Dict.del
      rw [List.length_cons]
      exact Nat.succ_le_succ (List.length_filter_le _ d)
    rw [List.length_cons]
    omega
theorem ItemsOk.putAll {d : Items} {v : Nat} (h : ItemsOk d v) {ops : List KOp} (ho : OpsOk [] ops) (hl : ops.length ≤ 256) : ItemsOk (putAll d (v + 1) ops) (v + 1) := by
  refine ⟨putAll_ok ops d h.ok, fun k x hk => ?_, ?_⟩
  · rcases putAll_some ops d ho.once hk with ⟨o, hm, e, rfl⟩ | h1
    · obtain ⟨a, b, c, g, -⟩ := ho.each o hm
      rw [← e]
      exact ⟨a, b, c, Nat.le_add_left _ _, Nat.le_refl _, g⟩
    · obtain ⟨a, b, c, g, i, j⟩ := h.each k x h1
      exact ⟨a, b, c, g, by omega, j⟩
  · have := putAll_length (v := v + 1) ops d
    have := h.many
    rw [Nat.mul_add, Nat.mul_one]
    omega

theorem bytesOf_len (k x : Nat) : (Slog.bytesOf k x).length = k := by
  induction k with
  | zero => rfl
  | succ k ih => show (_ :: Slog.bytesOf k x).length = _; rw [List.length_cons, ih]
theorem numB_len {n : Nat} (h : n < 65536) : (numB n).length ≤ 3 := by
  unfold numB
  split
  · simp
  · have hw : Slog.width n ≤ 2 := by unfold Slog.width; split <;> omega
    rw [List.length_cons, bytesOf_len]
    omega
theorem told_len {g : Bool} {v : Bytes} (h : v.length ≤ 4096) : (told g v).length ≤ 4100 := by
  unfold told
  have := numB_len (n := v.length) (by omega)
  split
  · simp
  · simp; omega
theorem encs_len (ops : List KOp) (h : ∀ o ∈ ops, o.key.length ≤ 128 ∧ o.value.length ≤ 4096) : ((ops.map KOp.enc).flatten).length ≤ 4231 * ops.length := by
  induction ops with
  | nil => simp
  | cons o l ih =>
    have h1 := ih fun x hx => h x (List.mem_cons_of_mem _ hx)
    obtain ⟨h2, h3⟩ := h o List.mem_cons_self
    have h4 := told_len (g := o.gone) h3
    have h5 := numB_len (n := o.key.length) (by omega)
    rw [List.map_cons, List.flatten_cons, List.length_append, List.length_cons]
    have h6 : o.enc.length ≤ 4231 := by unfold KOp.enc; rw [List.length_append, List.length_append]; omega
    omega

/-- WHAT HOLDS BETWEEN CALLS. -/
structure Good (s : St) : Prop where
  log : Slog.Good s.dk s.lg
  items : ItemsOk s.items s.version
  next : s.version + 1 ≤ s.lg.next
  synced : s.synced ≤ s.version
theorem Good.commit {s : St} (h : Good s) (hn : s.lg.next ≤ 246) (ops : List KOp) : Good (s.commit ops).1 ∧ (s.commit ops).1.lg.next ≤ s.lg.next + 1 := by
  unfold St.commit
  by_cases hc : check ops = 0
  · rw [if_pos hc]
    obtain ⟨h1, h2, h3⟩ := check_zero hc
    obtain ⟨g, a⟩ := h.log.append hn (enc (s.version + 1) ops)
    have h4 := h.next
    have h5 := h.synced
    by_cases he : (Slog.append s.dk s.lg (enc (s.version + 1) ops)).2.2.2 = 0
    · simp only [if_pos he]
      obtain ⟨-, e2, -⟩ := a.done he
      exact ⟨⟨g, h.items.putAll h3 h2, by show s.version + 1 + 1 ≤ Lg.next _; rw [e2]; omega, by show s.synced ≤ s.version + 1; omega⟩, by show Lg.next _ ≤ _; rw [e2]; exact Nat.le_refl _⟩
    · simp only [if_neg he]
      obtain ⟨-, e2, -⟩ := a.not he
      exact ⟨⟨g, h.items, by show s.version + 1 ≤ Lg.next _; rw [e2]; omega, h5⟩, by show Lg.next _ ≤ _; rw [e2]; omega⟩
  · rw [if_neg hc]
    exact ⟨h, Nat.le_succ _⟩
def St.play (s : St) (l : List (List KOp)) : St := l.foldl (fun s ops => (s.commit ops).1) s
theorem St.play_snoc (s : St) (l : List (List KOp)) (ops : List KOp) : s.play (l ++ [ops]) = ((s.play l).commit ops).1 := by unfold St.play; rw [List.foldl_append]; rfl
theorem Good.play {s : St} (h : Good s) : ∀ (l : List (List KOp)), s.lg.next + l.length ≤ 246 → Good (s.play l) ∧ (s.play l).lg.next ≤ s.lg.next + l.length := by
  intro l
  induction l generalizing s with
  | nil => intro _; exact ⟨h, Nat.le_refl _⟩
  | cons ops l ih =>
    intro hl
    rw [List.length_cons] at hl
    obtain ⟨h1, h2⟩ := h.commit (by omega) ops
    obtain ⟨h3, h4⟩ := ih h1 (by omega)
    rw [List.length_cons]
    exact ⟨h3, by show ((s.commit ops).1.play l).lg.next ≤ _; omega⟩
end Kv
end Go.Proofs.YtdbhccehbjhbpaaGreatDoor

/- kvstore, plain: stretches in pieces (KvstorePieces), what a commit writes (KvstoreWrites). No program. -/
namespace Go.Proofs.YtdbhccehbjhbpaaGreatDoor
open Disk (Dk Dict leB get_put get_del)
open Slog (Lg numB)
namespace Kv

theorem pick_nil (d : Items) (f : Bytes → It → Bool) : pick d f [] = [] := rfl
theorem pick_cons (d : Items) (f : Bytes → It → Bool) (k : Bytes) (ks : List Bytes) :
    pick d f (k :: ks) = (match Dict.get d k with
      | none => []
      | some x => if f k x = true then [(k, x)] else []) ++ pick d f ks := by
  unfold pick
  rw [List.filterMap_cons]
  cases Dict.get d k with
  | none => rfl
  | some x =>
    by_cases h : f k x = true
    · simp [h]
    · simp [h]
theorem pick_append (d : Items) (f : Bytes → It → Bool) (a b : List Bytes) : pick d f (a ++ b) = pick d f a ++ pick d f b := by
  unfold pick; rw [List.filterMap_append]
theorem pick_none {d : Items} {f : Bytes → It → Bool} {ks : List Bytes} (h : ∀ k ∈ ks, ∀ x, f k x = false) : pick d f ks = [] := by
  induction ks with
  | nil => rfl
  | cons k ks ih =>
    rw [pick_cons, ih fun j hj => h j (List.mem_cons_of_mem _ hj)]
    cases Dict.get d k with
    | none => rfl
    | some x => simp [h k List.mem_cons_self x]
theorem pick_congr {d : Items} {f g : Bytes → It → Bool} {ks : List Bytes} (h : ∀ k ∈ ks, ∀ x, f k x = g k x) : pick d f ks = pick d g ks := by
  induction ks with
  | nil => rfl
  | cons k ks ih =>
    rw [pick_cons, pick_cons, ih fun j hj => h j (List.mem_cons_of_mem _ hj)]
    cases Dict.get d k with
    | none => rfl
    | some x => simp [h k List.mem_cons_self x]
/-- rising keys are split at a key. -/
theorem pick_split {d : Items} {f g h : Bytes → It → Bool} (b : Bytes) {ks : List Bytes} (hs : ks.Pairwise (· ≤ ·))
    (hlo : ∀ k x, k < b → f k x = h k x ∧ g k x = false) (hhi : ∀ k x, ¬ k < b → f k x = false ∧ g k x = h k x) : pick d f ks ++ pick d g ks = pick d h ks := by
  induction ks with
  | nil => rfl
  | cons k ks ih =>
    rw [List.pairwise_cons] at hs
    by_cases hk : k < b
    · rw [pick_cons d f, pick_cons d g, pick_cons d h, ← ih hs.2]
      cases Dict.get d k with
      | none => rfl
      | some x => simp [(hlo k x hk).1, (hlo k x hk).2]
    · have hall : ∀ j ∈ k :: ks, ¬ j < b := by
        intro j hj
        rcases List.mem_cons.1 hj with rfl | hj
        · exact hk
        · intro hlt
          exact hk (List.lt_of_le_of_lt (hs.1 j hj) hlt)
      rw [pick_none fun j hj x => (hhi j x (hall j hj)).1, List.nil_append]
      exact pick_congr fun j hj x => (hhi j x (hall j hj)).2
theorem keys_rise (d : Items) : ((d.map (·.1)).mergeSort leB).Pairwise (· ≤ ·) := by
  have := List.pairwise_mergeSort (le := leB) (fun a b c h1 h2 => by unfold leB at *; exact decide_eq_true (List.le_trans (of_decide_eq_true h1) (of_decide_eq_true h2)))
    (fun a b => by unfold leB; rcases List.le_total a b with h | h <;> simp [h]) (d.map (·.1))
  exact this.imp fun h => of_decide_eq_true h
theorem nil_le (k : Bytes) : ([] : Bytes) ≤ k := by
  intro h
  cases h
theorem inScan_iff {a b k : Bytes} {x : It} : inScan a b k x = true ↔ x.gone = false ∧ a ≤ k ∧ (b = [] ∨ k < b) := by
  unfold inScan; simp [and_assoc]
theorem inScan_eq {a b c e k : Bytes} {x : It} (h : (a ≤ k ∧ (b = [] ∨ k < b)) ↔ (c ≤ k ∧ (e = [] ∨ k < e))) : inScan a b k x = inScan c e k x := by
  rw [Bool.eq_iff_iff, inScan_iff, inScan_iff, h]
theorem inScan_not {a b k : Bytes} {x : It} (h : ¬ (a ≤ k ∧ (b = [] ∨ k < b))) : inScan a b k x = false := by
  rw [← Bool.not_eq_true, inScan_iff]
  exact fun e => h e.2
/-- KvstorePieces, plain. -/
theorem scan_pieces (d : Items) {a b c : Bytes} (h1 : a ≤ b) (h2 : b ≤ c) (hb : b ≠ []) (hc : c ≠ []) : scan d a b ++ scan d b c = scan d a c := by
  refine pick_split b (keys_rise d) (fun k x hk => ⟨inScan_eq ?_, inScan_not ?_⟩) (fun k x hk => ⟨inScan_not ?_, inScan_eq ?_⟩)
  · have : k < c := Classical.byContradiction fun e => h2 (List.lt_of_le_of_lt (show c ≤ k from e) hk)
    simp [hb, hc, hk, this]
  · rintro ⟨e, -⟩
    exact e hk
  · rintro ⟨-, e⟩
    rcases e with e | e
    · exact hb e
    · exact hk e
  · have hbk : b ≤ k := hk
    simp [hc, hbk, List.le_trans h1 hbk]
theorem scan_all (d : Items) {b : Bytes} (hb : b ≠ []) : scan d [] b ++ scan d b [] = scan d [] [] := by
  refine pick_split b (keys_rise d) (fun k x hk => ⟨inScan_eq ?_, inScan_not ?_⟩) (fun k x hk => ⟨inScan_not ?_, inScan_eq ?_⟩)
  · simp [hb, hk]
  · rintro ⟨e, -⟩
    exact e hk
  · rintro ⟨-, e⟩
    rcases e with e | e
    · exact hb e
    · exact hk e
  · have hbk : b ≤ k := hk
    simp [hbk]

/-- KvstoreWrites, plain. -/
theorem get_in {d : Items} {v : Nat} {ops : List KOp} (hn : (ops.map (·.key)).Nodup) {o : KOp} (ho : o ∈ ops) : get (putAll d v ops) o.key = if o.gone = true then none else some (o.it v) := by
  unfold get
  rw [putAll_in ops d hn o ho]
  rfl
theorem get_other {d : Items} {v : Nat} {ops : List KOp} {k : Bytes} (h : ∀ o ∈ ops, o.key ≠ k) : get (putAll d v ops) k = get d k := by
  unfold get
  rw [putAll_other ops d h]
/-- a commit that is refused changes nothing that is told. -/
theorem St.refused {s : St} (h : Good s) (hn : s.lg.next ≤ 246) {ops : List KOp} (he : (s.commit ops).2.2 ≠ 0) :
    (s.commit ops).2.1 = 0 ∧ (s.commit ops).1.version = s.version ∧ (s.commit ops).1.items = s.items ∧ (s.commit ops).1.lg.segs = s.lg.segs ∧ (s.commit ops).1.synced = s.synced := by
  unfold St.commit at he ⊢
  by_cases hc : check ops = 0
  · rw [if_pos hc] at he ⊢
    obtain ⟨g, a⟩ := h.log.append hn (enc (s.version + 1) ops)
    by_cases h2 : (Slog.append s.dk s.lg (enc (s.version + 1) ops)).2.2.2 = 0
    · simp only [if_pos h2] at he
      exact absurd rfl he
    · have e3 := (a.not h2).2.2.1
      simp only [if_neg h2]
      exact ⟨trivial, trivial, trivial, e3, trivial⟩
  · rw [if_neg hc] at he ⊢
    exact ⟨rfl, rfl, rfl, rfl, rfl⟩
/-- one that is done. -/
theorem St.done {s : St} {ops : List KOp} (he : (s.commit ops).2.2 = 0) :
    check ops = 0 ∧ (s.commit ops).2.1 = ((s.version + 1 : Nat) : Int) ∧ (s.commit ops).1.version = s.version + 1 ∧ (s.commit ops).1.items = putAll s.items (s.version + 1) ops := by
  unfold St.commit at he ⊢
  by_cases hc : check ops = 0
  · rw [if_pos hc] at he ⊢
    by_cases h2 : (Slog.append s.dk s.lg (enc (s.version + 1) ops)).2.2.2 = 0
    · simp only [if_pos h2]
      exact ⟨hc, trivial, trivial, trivial⟩
    · simp only [if_neg h2] at he
      exact absurd he h2
  · rw [if_neg hc] at he
    exact absurd he hc
end Kv
end Go.Proofs.YtdbhccehbjhbpaaGreatDoor

/- kvstore, plain: what was there, with what was written since put over it (KvstoreNews). No program. -/
namespace Go.Proofs.YtdbhccehbjhbpaaGreatDoor
open Disk (Dk Dict leB get_put get_del get_mem get_of_mem get_none get_iff)
open Slog (Lg numB)
namespace Kv

theorem mem_keys {d : Items} {k : Bytes} : k ∈ (d.map (·.1)).mergeSort leB ↔ ∃ x, Dict.get d k = some x := by
  rw [List.mem_mergeSort, List.mem_map]
  constructor
  · rintro ⟨p, hp, rfl⟩
    cases hg : Dict.get d p.1 with
    | none => exact absurd rfl (get_none hg p hp)
    | some x => exact ⟨x, rfl⟩
  · rintro ⟨x, h⟩
    exact ⟨_, get_mem h, rfl⟩
theorem mem_pick {d : Items} {f : Bytes → It → Bool} {ks : List Bytes} {k : Bytes} {x : It} : (k, x) ∈ pick d f ks ↔ k ∈ ks ∧ Dict.get d k = some x ∧ f k x = true := by
  induction ks with
  | nil => simp [pick_nil]
  | cons j ks ih =>
    rw [pick_cons, List.mem_append, ih, List.mem_cons]
    cases hg : Dict.get d j with
    | none =>
      constructor
      · rintro (h | h)
        · cases h
        · exact ⟨.inr h.1, h.2⟩
      · rintro ⟨rfl | h, h2⟩
        · rw [hg] at h2
          cases h2.1
        · exact .inr ⟨h, h2⟩
    | some y =>
      simp only
      by_cases hf : f j y = true
      · rw [if_pos hf, List.mem_singleton]
        constructor
        · rintro (h | h)
          · cases h
            exact ⟨.inl rfl, hg, hf⟩
          · exact ⟨.inr h.1, h.2⟩
        · rintro ⟨rfl | h, h2⟩
          · rw [hg] at h2
            cases h2.1
            exact .inl rfl
          · exact .inr ⟨h, h2⟩
      · rw [if_neg hf]
        constructor
        · rintro (h | h)
          · cases h
          · exact ⟨.inr h.1, h.2⟩
        · rintro ⟨rfl | h, h2⟩
          · rw [hg] at h2
            cases h2.1
            exact absurd h2.2 hf
          · exact .inr ⟨h, h2⟩
theorem mem_rising {d : Items} {f : Bytes → It → Bool} {k : Bytes} {x : It} : (k, x) ∈ rising d f ↔ Dict.get d k = some x ∧ f k x = true := by
  unfold rising
  rw [mem_pick, mem_keys]
  exact ⟨fun h => h.2, fun h => ⟨⟨x, h.1⟩, h⟩⟩
theorem pick_keys (d : Items) (f : Bytes → It → Bool) (ks : List Bytes) : ((pick d f ks).map (·.1)).Sublist ks := by
  induction ks with
  | nil => exact List.Sublist.slnil
  | cons j ks ih =>
    rw [pick_cons, List.map_append]
    cases Dict.get d j with
    | none => exact ih.cons j
    | some y =>
      simp only
      by_cases hf : f j y = true
      · rw [if_pos hf]
        exact ih.cons_cons j
      · rw [if_neg hf]
        exact ih.cons j
theorem rising_nodup {d : Items} (h : Dict.Ok d) (f : Bytes → It → Bool) : ((rising d f).map (·.1)).Nodup := by
  refine (pick_keys d f _).nodup ?_
  exact (List.mergeSort_perm (d.map (·.1)) leB).nodup_iff.2 (show (d.map (·.1)).Nodup from h)
theorem lt_of_le_ne {a b : Bytes} (h : a ≤ b) (hn : a ≠ b) : a < b :=
  Classical.byContradiction fun e => hn (List.le_antisymm h e)
theorem rising_lt {d : Items} (h : Dict.Ok d) (f : Bytes → It → Bool) : ((rising d f).map (·.1)).Pairwise (· < ·) := by
  have h1 := (keys_rise d).sublist (pick_keys d f _)
  have h2 : ((rising d f).map (·.1)).Pairwise (· ≠ ·) := rising_nodup h f
  exact (h1.and h2).imp fun h => lt_of_le_ne h.1 h.2

/-- what changed behind a version has a later one. -/
def News (d e : Items) (v : Nat) : Prop := ∀ k, Dict.get e k = Dict.get d k ∨ ∃ x, Dict.get e k = some x ∧ v < x.at_
theorem News.refl (d : Items) (v : Nat) : News d d v := fun _ => .inl rfl
theorem News.putAll {d e : Items} {v u : Nat} (h : News d e v) (hu : v ≤ u) {ops : List KOp} (hn : (ops.map (·.key)).Nodup) : News d (putAll e (u + 1) ops) v := by
  intro k
  by_cases hk : ∃ o ∈ ops, o.key = k
  · obtain ⟨o, ho, rfl⟩ := hk
    exact .inr ⟨_, putAll_in ops e hn o ho, by show v < u + 1; omega⟩
  · rw [putAll_other ops e (fun o ho e => hk ⟨o, ho, e⟩)]
    exact h k
theorem News.commit {d : Items} {v : Nat} {s : St} (h : News d s.items v) (hu : v ≤ s.version) (hg : Good s) (hn : s.lg.next ≤ 246) (ops : List KOp) : News d (s.commit ops).1.items v ∧ v ≤ (s.commit ops).1.version := by
  by_cases he : (s.commit ops).2.2 = 0
  · obtain ⟨h1, -, h2, h3⟩ := St.done he
    rw [h2, h3]
    exact ⟨h.putAll hu (check_zero h1).2.2.once, by omega⟩
  · obtain ⟨-, h2, h3, -⟩ := St.refused hg hn he
    rw [h2, h3]
    exact ⟨h, hu⟩

/-- what is laid over what was there, one behind the other. -/
def over (there : Items) : List (Bytes × It) → Items
  | [] => there
  | p :: l => over (if p.2.gone = true then Dict.del (Dict.put there p.1 p.2) p.1 else Dict.put there p.1 p.2) l
theorem over_ok : ∀ (l : List (Bytes × It)) {t : Items}, Dict.Ok t → Dict.Ok (over t l) := by
  intro l
  induction l with
  | nil => intro t h; exact h
  | cons p l ih =>
    intro t h
    unfold over
    split
    · exact ih ((h.put _ _).del _)
    · exact ih (h.put _ _)
theorem over_other {k : Bytes} : ∀ (l : List (Bytes × It)) {t : Items}, k ∉ l.map (·.1) → Dict.get (over t l) k = Dict.get t k := by
  intro l
  induction l with
  | nil => intro t _; rfl
  | cons p l ih =>
    intro t h
    rw [List.map_cons, List.mem_cons, not_or] at h
    unfold over
    split
    · rw [ih h.2, get_del, if_neg h.1, get_put, if_neg h.1]
    · rw [ih h.2, get_put, if_neg h.1]
theorem over_in : ∀ (l : List (Bytes × It)) {t : Items}, (l.map (·.1)).Nodup → ∀ p ∈ l, Dict.get (over t l) p.1 = if p.2.gone = true then none else some p.2 := by
  intro l
  induction l with
  | nil => intro t _ p h; cases h
  | cons q l ih =>
    intro t h p hp
    rw [List.map_cons, List.nodup_cons] at h
    unfold over
    rcases List.mem_cons.1 hp with rfl | hp
    · split
      · rw [over_other l h.1, get_del, if_pos rfl]
      · rw [over_other l h.1, get_put, if_pos rfl]
    · split
      · exact ih h.2 p hp
      · exact ih h.2 p hp
/-- KvstoreNews, plain: each key has what it has now. -/
theorem news_get {d e : Items} {v : Nat} (he : Dict.Ok e) (h : News d e v) (k : Bytes) :
    Dict.get (over (scan d [] []) (since e v)) k = get e k := by
  by_cases hk : k ∈ (since e v).map (·.1)
  · obtain ⟨p, hp, rfl⟩ := List.mem_map.1 hk
    rw [over_in (since e v) (rising_nodup he _) p hp]
    have := (mem_rising.1 (show (p.1, p.2) ∈ rising e _ from hp)).1
    unfold get
    rw [this]
  · rw [over_other _ hk]
    have h1 : Dict.get e k = Dict.get d k := by
      rcases h k with h1 | ⟨x, h1, h2⟩
      · exact h1
      · exact absurd (List.mem_map.2 ⟨(k, x), mem_rising.2 ⟨h1, decide_eq_true (by omega)⟩, rfl⟩) hk
    unfold get
    rw [h1]
    cases hg : Dict.get (scan d [] []) k with
    | some x =>
      have h2 := mem_rising.1 (get_mem hg)
      rw [h2.1]
      have h3 := (inScan_iff.1 h2.2).1
      simp [h3]
    | none =>
      cases hd2 : Dict.get d k with
      | none => rfl
      | some x =>
        by_cases hx : x.gone = true
        · simp [hx]
        · exact absurd rfl (get_none hg (k, x) (mem_rising.2 ⟨hd2, inScan_iff.2 ⟨by simpa using hx, nil_le k, .inl rfl⟩⟩))
theorem scan_all_get (d : Items) (k : Bytes) : Dict.get (scan d [] []) k = get d k := by
  cases hg : Dict.get (scan d [] []) k with
  | some x =>
    have h2 := mem_rising.1 (get_mem hg)
    have h3 := (inScan_iff.1 h2.2).1
    unfold get
    rw [h2.1]
    simp [h3]
  | none =>
    unfold get
    cases hd2 : Dict.get d k with
    | none => rfl
    | some x =>
      by_cases hx : x.gone = true
      · simp [hx]
      · exact absurd rfl (get_none hg (k, x) (mem_rising.2 ⟨hd2, inScan_iff.2 ⟨by simpa using hx, nil_le k, .inl rfl⟩⟩))
theorem perm_of_get {a b : Items} (ha : Dict.Ok a) (hb : Dict.Ok b) (h : ∀ k, Dict.get a k = Dict.get b k) : a.Perm b := by
  have na : a.Nodup := List.Pairwise.imp (fun h e => h (congrArg Prod.fst e)) (List.pairwise_map.1 ha)
  have nb : b.Nodup := List.Pairwise.imp (fun h e => h (congrArg Prod.fst e)) (List.pairwise_map.1 hb)
  refine (List.perm_ext_iff_of_nodup na nb).2 fun p => ?_
  obtain ⟨k, x⟩ := p
  rw [← get_iff ha, ← get_iff hb, h]
/-- as many as there are now. -/
theorem news_length {d e : Items} {v : Nat} (hd : Dict.Ok d) (he : Dict.Ok e) (h : News d e v) :
    (over (scan d [] []) (since e v)).length = (scan e [] []).length := by
  refine (perm_of_get (over_ok _ (rising_nodup hd _)) (rising_nodup he _) fun k => ?_).length_eq
  exact (news_get he h k).trans (scan_all_get e k).symm
end Kv
end Go.Proofs.YtdbhccehbjhbpaaGreatDoor
