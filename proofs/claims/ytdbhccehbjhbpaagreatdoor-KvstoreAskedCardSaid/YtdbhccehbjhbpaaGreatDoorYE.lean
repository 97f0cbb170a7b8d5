/- kvstore: a law. (Several texts in one file, by mz.py.) -/
import Derived.Test.YtdbhccehbjhbpaaGreatDoorKE
import Derived.Test.YtdbhccehbjhbpaaGreatDoorYB
import Derived.Test.YtdbhccehbjhbpaaGreatDoorK17

/- the reference store, plain: what is written, items by rising keys (KvstoreAsked). No program. -/
namespace Go.Proofs.YtdbhccehbjhbpaaGreatDoor
open Disk (Dk Dict leB get_put get_del used)
open Slog (Lg numB)
namespace Kv

/-! the written list -/
def lastIt (wl : List (Bytes × It)) (k : Bytes) : Option It := (wl.reverse.find? fun p => p.1 == k).map (·.2)
theorem lastIt_nil (k : Bytes) : lastIt [] k = none := rfl
theorem lastIt_snoc (wl : List (Bytes × It)) (x : Bytes × It) (k : Bytes) : lastIt (wl ++ [x]) k = if x.1 = k then some x.2 else lastIt wl k := by
  unfold lastIt
  rw [List.reverse_append, List.reverse_singleton, List.singleton_append]
  by_cases h : x.1 = k
  · rw [List.find?_cons_of_pos (by simp [h]), if_pos h]; rfl
  · rw [List.find?_cons_of_neg (by simp [h]), if_neg h]

/-- what is there, of what was written last. -/
def alive (o : Option It) : Option It := match o with
  | none => none
  | some y => if y.gone = true then none else some y
theorem get_alive (d : Items) (k : Bytes) : get d k = alive (Dict.get d k) := by
  unfold get alive
  cases Dict.get d k <;> rfl

/-! items by rising keys -/
def isStep (x : Bytes × It) (s : List (Bytes × It) × Bool) (y : Bytes × It) : List (Bytes × It) × Bool :=
  let t := if s.2 = false ∧ x.1 ≤ y.1 then (s.1 ++ [x], true) else s
  if y.1 = x.1 then t else (t.1 ++ [y], t.2)
def isEnd (x : Bytes × It) (s : List (Bytes × It) × Bool) : List (Bytes × It) := if s.2 = true then s.1 else s.1 ++ [x]
def insOut (out : List (Bytes × It)) (x : Bytes × It) : List (Bytes × It) := isEnd x (out.foldl (isStep x) ([], false))
def allItems (wl : List (Bytes × It)) : List (Bytes × It) := wl.foldl insOut []
def Rise (l : List (Bytes × It)) : Prop := l.Pairwise fun a b => a.1 < b.1

theorem le_of_not_lt' {a b : Bytes} (h : ¬ a < b) : b ≤ a := h
theorem lt_irrefl' (a : Bytes) : ¬ a < a := List.lt_irrefl a
theorem lt_trans' {a b c : Bytes} (h1 : a < b) (h2 : b < c) : a < c := List.lt_trans h1 h2
theorem lt_or_eq_or_gt' (a b : Bytes) : a < b ∨ a = b ∨ b < a := by
  by_cases h1 : a < b
  · exact .inl h1
  · by_cases h2 : b < a
    · exact .inr (.inr h2)
    · exact .inr (.inl (List.le_antisymm (show a ≤ b from h2) (show b ≤ a from h1)))

structure Split (x : Bytes × It) (done : List (Bytes × It)) (s : List (Bytes × It) × Bool) : Prop where
  no : s.2 = false → s.1 = done ∧ ∀ p ∈ done, p.1 < x.1
  yes : s.2 = true → ∃ pre post, s.1 = pre ++ x :: post ∧ (∀ p ∈ pre, p.1 < x.1 ∧ p ∈ done) ∧ (∀ p ∈ post, x.1 < p.1 ∧ p ∈ done) ∧ Rise pre ∧ Rise post ∧ (∀ p ∈ done, p ∈ pre ∨ p ∈ post ∨ p.1 = x.1) ∧ ∃ p ∈ done, x.1 ≤ p.1

theorem rise_snoc {l : List (Bytes × It)} {y : Bytes × It} : Rise (l ++ [y]) ↔ Rise l ∧ ∀ p ∈ l, p.1 < y.1 := by
  unfold Rise
  rw [List.pairwise_append]
  constructor
  · rintro ⟨h1, -, h3⟩
    exact ⟨h1, fun p hp => h3 p hp y (by simp)⟩
  · rintro ⟨h1, h2⟩
    exact ⟨h1, List.pairwise_singleton _ _, fun a ha b hb => by rw [List.mem_singleton.1 hb]; exact h2 a ha⟩

theorem Split.step {x : Bytes × It} {done : List (Bytes × It)} {s : List (Bytes × It) × Bool} (h : Split x done s) (y : Bytes × It) (hr : Rise (done ++ [y])) : Split x (done ++ [y]) (isStep x s y) := by
  obtain ⟨hr1, hr2⟩ := rise_snoc.1 hr
  obtain ⟨l, b⟩ := s
  cases b with
  | false =>
    obtain ⟨e1, hlt⟩ := h.no rfl
    simp only at e1
    subst e1
    unfold isStep
    by_cases hle : x.1 ≤ y.1
    · simp only [hle, and_self, if_true]
      by_cases he : y.1 = x.1
      · rw [if_pos he]
        refine ⟨fun h => (by cases h), fun _ => ⟨l, [], rfl, fun p hp => ⟨hlt p hp, List.mem_append_left _ hp⟩, fun p hp => (by cases hp), hr1, List.Pairwise.nil, fun p hp => ?_, y, by simp, hle⟩⟩
        rcases List.mem_append.1 hp with hp | hp
        · exact .inl hp
        · rw [List.mem_singleton.1 hp]; exact .inr (.inr he)
      · rw [if_neg he]
        have hxy : x.1 < y.1 := by
          rcases lt_or_eq_or_gt' x.1 y.1 with h | h | h
          · exact h
          · exact absurd h.symm he
          · exact absurd h hle
        refine ⟨fun h => (by cases h), fun _ => ⟨l, [y], by simp, fun p hp => ⟨hlt p hp, List.mem_append_left _ hp⟩, fun p hp => ?_, hr1, List.pairwise_singleton _ _, fun p hp => ?_, y, by simp, hle⟩⟩
        · rw [List.mem_singleton.1 hp]; exact ⟨hxy, by simp⟩
        · rcases List.mem_append.1 hp with hp | hp
          · exact .inl hp
          · exact .inr (.inl hp)
    · have hyx : y.1 < x.1 := by
        rcases lt_or_eq_or_gt' x.1 y.1 with h | h | h
        · exact absurd (fun h2 => lt_irrefl' _ (lt_trans' h h2)) hle
        · exact absurd (by rw [h]; exact lt_irrefl' _) hle
        · exact h
      have he : ¬ y.1 = x.1 := fun e => lt_irrefl' x.1 (by rw [e] at hyx; exact hyx)
      simp only [hle, and_false, if_false, if_neg he]
      refine ⟨fun _ => ⟨rfl, fun p hp => ?_⟩, fun h => (by cases h)⟩
      rcases List.mem_append.1 hp with hp | hp
      · exact hlt p hp
      · rw [List.mem_singleton.1 hp]; exact hyx
  | true =>
    obtain ⟨pre, post, e1, h1, h2, h3, h4, h5, q, hq, hxq⟩ := h.yes rfl
    simp only at e1
    subst e1
    unfold isStep
    simp only [Bool.true_eq_false, false_and, if_false]
    by_cases he : y.1 = x.1
    · rw [if_pos he]
      refine ⟨fun h => (by cases h), fun _ => ⟨pre, post, rfl, fun p hp => ⟨(h1 p hp).1, List.mem_append_left _ (h1 p hp).2⟩, fun p hp => ⟨(h2 p hp).1, List.mem_append_left _ (h2 p hp).2⟩, h3, h4, fun p hp => ?_, q, List.mem_append_left _ hq, hxq⟩⟩
      rcases List.mem_append.1 hp with hp | hp
      · exact h5 p hp
      · rw [List.mem_singleton.1 hp]; exact .inr (.inr he)
    · rw [if_neg he]
      by_cases hxy : x.1 < y.1
      · refine ⟨fun h => (by cases h), fun _ => ⟨pre, post ++ [y], by simp, fun p hp => ⟨(h1 p hp).1, List.mem_append_left _ (h1 p hp).2⟩, fun p hp => ?_, h3, rise_snoc.2 ⟨h4, fun p hp => hr2 p (h2 p hp).2⟩, fun p hp => ?_, q, List.mem_append_left _ hq, hxq⟩⟩
        · rcases List.mem_append.1 hp with hp | hp
          · exact ⟨(h2 p hp).1, List.mem_append_left _ (h2 p hp).2⟩
          · rw [List.mem_singleton.1 hp]; exact ⟨hxy, by simp⟩
        · rcases List.mem_append.1 hp with hp | hp
          · rcases h5 p hp with h | h | h
            · exact .inl h
            · exact .inr (.inl (List.mem_append_left _ h))
            · exact .inr (.inr h)
          · exact .inr (.inl (List.mem_append_right _ hp))
      · exact absurd (List.lt_of_le_of_lt hxq (hr2 q hq)) hxy
theorem Split.fold {x : Bytes × It} : ∀ {l done : List (Bytes × It)} {s : List (Bytes × It) × Bool}, Split x done s → Rise (done ++ l) → Split x (done ++ l) (l.foldl (isStep x) s) := by
  intro l
  induction l with
  | nil => intro done s h _; rw [List.append_nil]; exact h
  | cons y l ih =>
    intro done s h hr
    rw [show done ++ y :: l = (done ++ [y]) ++ l by simp] at hr ⊢
    exact ih (h.step y (List.pairwise_append.1 hr).1) hr
theorem insOut_spec {out : List (Bytes × It)} (h : Rise out) (x : Bytes × It) : Rise (insOut out x) ∧ ∀ p, p ∈ insOut out x ↔ p = x ∨ (p ∈ out ∧ p.1 ≠ x.1) := by
  have hs := Split.fold (x := x) (l := out) (done := []) (s := ([], false)) ⟨fun _ => ⟨rfl, fun p hp => (by cases hp)⟩, fun h => (by cases h)⟩ h
  rw [List.nil_append] at hs
  unfold insOut isEnd
  generalize out.foldl (isStep x) ([], false) = s at *
  obtain ⟨l, b⟩ := s
  cases b with
  | false =>
    obtain ⟨e, hlt⟩ := hs.no rfl
    simp only at e
    subst e
    rw [if_neg (by simp)]
    refine ⟨rise_snoc.2 ⟨h, hlt⟩, fun p => ?_⟩
    rw [List.mem_append, List.mem_singleton]
    constructor
    · rintro (hp | hp)
      · exact .inr ⟨hp, fun e => lt_irrefl' x.1 (by have := hlt p hp; rw [e] at this; exact this)⟩
      · exact .inl hp
    · rintro (hp | hp)
      · exact .inr hp
      · exact .inl hp.1
  | true =>
    obtain ⟨pre, post, e1, h1, h2, h3, h4, h5, -⟩ := hs.yes rfl
    simp only at e1
    subst e1
    rw [if_pos rfl]
    refine ⟨?_, fun p => ?_⟩
    · unfold Rise at *
      rw [List.pairwise_append, List.pairwise_cons]
      refine ⟨h3, ⟨fun p hp => (h2 p hp).1, h4⟩, fun a ha b hb => ?_⟩
      rcases List.mem_cons.1 hb with rfl | hb
      · exact (h1 a ha).1
      · exact lt_trans' (h1 a ha).1 (h2 b hb).1
    · rw [List.mem_append, List.mem_cons]
      constructor
      · rintro (hp | hp | hp)
        · exact .inr ⟨(h1 p hp).2, fun e => lt_irrefl' x.1 (by have := (h1 p hp).1; rw [e] at this; exact this)⟩
        · exact .inl hp
        · exact .inr ⟨(h2 p hp).2, fun e => lt_irrefl' x.1 (by have := (h2 p hp).1; rw [e] at this; exact this)⟩
      · rintro (hp | ⟨hp, hne⟩)
        · exact .inr (.inl hp)
        · rcases h5 p hp with h | h | h
          · exact .inl h
          · exact .inr (.inr h)
          · exact absurd h hne
theorem allItems_spec (wl : List (Bytes × It)) : Rise (allItems wl) ∧ ∀ p, p ∈ allItems wl ↔ lastIt wl p.1 = some p.2 := by
  suffices ∀ (l done : List (Bytes × It)) (s : List (Bytes × It)), (Rise s ∧ ∀ p, p ∈ s ↔ lastIt done p.1 = some p.2) → Rise (l.foldl insOut s) ∧ ∀ p, p ∈ l.foldl insOut s ↔ lastIt (done ++ l) p.1 = some p.2 by
    have h := this wl [] [] ⟨List.Pairwise.nil, fun p => by simp [lastIt_nil]⟩
    rw [List.nil_append] at h
    exact h
  intro l
  induction l with
  | nil => intro done s h; rw [List.append_nil]; exact h
  | cons x l ih =>
    intro done s h
    rw [show done ++ x :: l = (done ++ [x]) ++ l by simp, List.foldl_cons]
    refine ih _ _ ?_
    obtain ⟨h1, h2⟩ := insOut_spec h.1 x
    refine ⟨h1, fun p => ?_⟩
    rw [h2 p, lastIt_snoc]
    by_cases he : x.1 = p.1
    · rw [if_pos he]
      constructor
      · rintro (rfl | ⟨-, hp⟩)
        · rfl
        · exact absurd he.symm hp
      · intro e
        refine .inl ?_
        obtain ⟨k, v⟩ := p
        obtain ⟨k2, v2⟩ := x
        simp only [Option.some.injEq] at e he
        rw [e, he]
    · rw [if_neg he, ← h.2 p]
      constructor
      · rintro (rfl | ⟨hp, -⟩)
        · exact absurd rfl he
        · exact hp
      · intro hp
        exact .inr ⟨hp, fun e => he e.symm⟩
/-- lists that rise and have the same members are alike. -/
theorem rise_ext : ∀ {a b : List (Bytes × It)}, Rise a → Rise b → (∀ p, p ∈ a ↔ p ∈ b) → a = b := by
  intro a
  induction a with
  | nil =>
    intro b _ _ h
    cases b with
    | nil => rfl
    | cons y b => exact absurd ((h y).2 (by simp)) (by simp)
  | cons x a ih =>
    intro b ha hb h
    cases b with
    | nil => exact absurd ((h x).1 (by simp)) (by simp)
    | cons y b =>
      unfold Rise at ha hb
      rw [List.pairwise_cons] at ha hb
      have hxy : x = y := by
        rcases List.mem_cons.1 ((h x).1 (by simp)) with e | hx
        · exact e
        · rcases List.mem_cons.1 ((h y).2 (by simp)) with e | hy
          · exact e.symm
          · exact absurd (lt_trans' (hb.1 x hx) (ha.1 y hy)) (lt_irrefl' _)
      subst hxy
      rw [ih ha.2 hb.2 fun p => ?_]
      have hp := h p
      rw [List.mem_cons, List.mem_cons] at hp
      constructor
      · intro hm
        rcases hp.1 (.inr hm) with rfl | h2
        · exact absurd (ha.1 _ hm) (lt_irrefl' _)
        · exact h2
      · intro hm
        rcases hp.2 (.inr hm) with rfl | h2
        · exact absurd (hb.1 _ hm) (lt_irrefl' _)
        · exact h2
theorem Rise.filter {l : List (Bytes × It)} (h : Rise l) (f : Bytes × It → Bool) : Rise (l.filter f) := List.Pairwise.filter _ h
theorem allItems_len (wl : List (Bytes × It)) : (allItems wl).length ≤ wl.length := by
  suffices ∀ (l s : List (Bytes × It)), (l.foldl insOut s).length ≤ s.length + l.length by
    have := this wl []
    unfold allItems
    simpa using this
  have hstep : ∀ (x : Bytes × It) (l : List (Bytes × It)) (s : List (Bytes × It) × Bool), (isEnd x (l.foldl (isStep x) s)).length ≤ s.1.length + l.length + (if s.2 = true then 0 else 1) := by
    intro x l
    induction l with
    | nil =>
      intro s
      unfold isEnd
      rw [List.foldl_nil]
      by_cases h : s.2 = true
      · rw [if_pos h, if_pos h]; simp
      · rw [if_neg h, if_neg h]; simp
    | cons y l ih =>
      intro s
      rw [List.foldl_cons]
      refine Nat.le_trans (ih _) ?_
      obtain ⟨q, b⟩ := s
      unfold isStep
      rw [List.length_cons]
      cases b with
      | true => simp only [Bool.true_eq_false, false_and, if_false]; split <;> simp <;> omega
      | false =>
        by_cases hle : x.1 ≤ y.1
        · simp only [hle, and_self, if_true]; split <;> simp <;> omega
        · simp only [hle, and_false, if_false]; split <;> simp <;> omega
  intro l
  induction l with
  | nil => intro s; simp
  | cons x l ih =>
    intro s
    rw [List.foldl_cons]
    have h1 := ih (insOut s x)
    have h2 := hstep x s ([], false)
    simp only [List.length_nil] at h2
    have h3 : (insOut s x).length ≤ s.length + 1 := by
      unfold insOut
      have : (if false = true then 0 else 1) = 1 := rfl
      simp at h2
      omega
    rw [List.length_cons]
    omega

theorem rising_rise {d : Items} (h : Dict.Ok d) (f : Bytes → It → Bool) : Rise (rising d f) := by
  have := rising_lt h f
  rw [List.pairwise_map] at this
  exact this
/-- ITEMS of what was written are those of the store. -/
theorem items_told {d : Items} (hd : Dict.Ok d) {wl : List (Bytes × It)} (h : ∀ k, Dict.get d k = lastIt wl k) (f : Bytes → It → Bool) : (allItems wl).filter (fun p => f p.1 p.2) = rising d f := by
  obtain ⟨h1, h2⟩ := allItems_spec wl
  refine rise_ext (h1.filter _) (rising_rise hd f) fun p => ?_
  rw [List.mem_filter, h2 p]
  obtain ⟨k, x⟩ := p
  show _ ↔ (k, x) ∈ pick d f _
  rw [mem_pick, mem_keys, h k]
  constructor
  · rintro ⟨e1, e2⟩
    exact ⟨⟨x, e1⟩, e1, e2⟩
  · rintro ⟨-, e1, e2⟩
    exact ⟨e1, e2⟩
theorem last_putAll {v : Nat} : ∀ (ops : List KOp) {d : Items} {wl : List (Bytes × It)}, (∀ k, Dict.get d k = lastIt wl k) → ∀ k, Dict.get (putAll d v ops) k = lastIt (wl ++ ops.map fun o => (o.key, o.it v)) k := by
  intro ops
  induction ops with
  | nil => intro d wl h k; rw [List.map_nil, List.append_nil]; exact h k
  | cons o l ih =>
    intro d wl h k
    rw [putAll_cons, List.map_cons, show wl ++ (o.key, o.it v) :: l.map (fun o => (o.key, o.it v)) = (wl ++ [(o.key, o.it v)]) ++ l.map (fun o => (o.key, o.it v)) by simp]
    refine ih (fun j => ?_) k
    rw [get_put, lastIt_snoc, h j]
    by_cases hj : j = o.key
    · rw [if_pos hj, if_pos hj.symm]
    · rw [if_neg hj, if_neg fun e => hj e.symm]
/-- with room an append is refused for its length alone. -/
theorem append_err {d : Dk} {l : Lg} (h : Slog.Good d l) (hn : l.next ≤ 246) (hroom : used d.held + 65600 ≤ d.room) (r : Bytes) : (Slog.append d l r).2.2.2 = if 65535 < r.length then 4 else 0 := by
  have hput : ∀ (w : Dk × Int) (a b : Lg) (n : Nat), w.2 = 0 → (Slog.put w a b n).2.2.2 = 0 := by
    intro w a b n hw
    unfold Slog.put
    rw [if_pos hw]
  unfold Slog.append
  by_cases hr : 65535 < r.length
  · simp only [if_pos hr]
  · simp only [if_neg hr]
    have hr' : r.length ≤ 65535 := by omega
    cases hgl : l.segs.getLast? with
    | none =>
      simp only
      exact hput _ _ _ _ (h.goes (by omega) (by omega) hr' hroom)
    | some s =>
      obtain ⟨ls, hls⟩ := List.getLast?_eq_some_iff.1 hgl
      simp only
      have hnum := h.last_num hls
      by_cases hf : 4096 ≤ s.bytes.length
      · simp only [if_pos hf]
        obtain ⟨-, hg, -, -⟩ := h.sync hls
        exact hput _ _ _ _ (Slog.Good.goes (l := l.marked) hg (k := l.next) (j := l.next) (by omega) (by omega) hr' (by have := Disk.sync_used h.ok (Slog.nameB s.1); rw [Disk.sync_room]; omega))
      · simp only [if_neg hf]
        exact hput _ _ _ _ (h.goes (by omega) (by omega) hr' hroom)
/-- what the reference has written: what the store has. -/
structure Asked (s : St) (wl : List (Bytes × It)) (k : Nat) : Prop where
  good : Good s
  next : s.lg.next ≤ k + 1
  used : used s.dk.held ≤ 65600 * k
  room : s.dk.room = 16777216
  last : ∀ j, Dict.get s.items j = lastIt wl j
  few : wl.length ≤ 256 * k
/-- what the reference writes of a commit. -/
def goes (v : Nat) (ops : List KOp) : Prop := check ops = 0 ∧ (enc (v + 1) ops).length ≤ 65535
theorem Asked.step {s : St} {wl : List (Bytes × It)} {k : Nat} (h : Asked s wl k) (hk : k < 60) (ops : List KOp) :
    (goes s.version ops → Asked (s.commit ops).1 (wl ++ ops.map fun o => (o.key, o.it (s.version + 1))) (k + 1) ∧ (s.commit ops).1.version = s.version + 1) ∧
    (¬ goes s.version ops → Asked (s.commit ops).1 wl (k + 1) ∧ (s.commit ops).1.version = s.version) := by
  have hn := h.next
  have hu := h.used
  have hrm := h.room
  have hc := h.good.commit (by omega) ops
  have hus := St.commit_used h.good (by omega) ops
  have hae := append_err h.good.log (by omega) (by omega) (enc (s.version + 1) ops)
  constructor
  · rintro ⟨g1, g2⟩
    have h0 : (s.commit ops).2.2 = 0 := by
      unfold St.commit
      rw [if_pos g1]
      rw [if_neg (by omega)] at hae
      simp only [if_pos hae]
    obtain ⟨-, -, e3, e4⟩ := St.done h0
    refine ⟨⟨hc.1, by omega, by omega, by rw [hus.2]; exact hrm, ?_, ?_⟩, e3⟩
    · rw [e4]
      exact last_putAll ops h.last
    · obtain ⟨-, h2, -⟩ := check_zero g1
      have := h.few
      rw [List.length_append, List.length_map]
      omega
  · intro hng
    have h0 : (s.commit ops).2.2 ≠ 0 := by
      unfold St.commit
      by_cases hck : check ops = 0
      · rw [if_pos hck]
        have : 65535 < (enc (s.version + 1) ops).length := Classical.byContradiction fun e => hng ⟨hck, by omega⟩
        rw [if_pos this] at hae
        simp only [if_neg (show (Slog.append s.dk s.lg (enc (s.version + 1) ops)).2.2.2 ≠ 0 by rw [hae]; decide)]
        rw [hae]
        decide
      · rw [if_neg hck]
        exact hck
    obtain ⟨-, e2, e3, -, -⟩ := St.refused h.good (by omega) h0
    refine ⟨⟨hc.1, by omega, by omega, by rw [hus.2]; exact hrm, by rw [e3]; exact h.last, by have := h.few; omega⟩, e2⟩
end Kv
end Go.Proofs.YtdbhccehbjhbpaaGreatDoor

/- the reference store: Last, Get. -/
namespace Go.Proofs.YtdbhccehbjhbpaaGreatDoor
open Go.RowKit
open Kv (It lastIt lastIt_snoc lastIt_nil)

/-- a store's cells: its log, what was written, the version, what is synced. -/
def rsCells (g : Nat) (v : Value) (ver syn : Nat) : Array Value := #[.pointer (some ⟨g, 0, none⟩), v, .int .i64 ver, .int .i64 syn]
def lastV (wl : List (List UInt8 × It)) (k : List UInt8) : Value := match lastIt wl k with
  | none => zeroItem
  | some x => itemV k x
theorem res_cell1 {P : Program} {fn : Func} {p : Tmp} {ty : TypeId} (h : fn.results = #[.cell p ty]) (tmps : Array Value) (w : World) (g : Nat) (tt : TypeId) (cs : Array Value) (d : TypeDesc)
    (hp : tmps.getD p undef = .pointer (some ⟨g, 0, none⟩)) (hg : Blk w g tt cs)
    (hu : P.underlying ty = some d) (hd : (match d with | .struct _ | .array _ _ => true | _ => false) = true) (hi : (P.info? ty).map (·.size) = some cs.size) :
    (results fn tmps).run P w = .ok (.agg cs) w := by
  have hp' : tmps[p]?.getD undef = .pointer (some ⟨g, 0, none⟩) := by simpa using hp
  simp [results, h, hp', asAddr, run_loadVar_row w g tt ty cs (0, 0) d hg hu hd hi]

set_option maxRecDepth 100000 in
set_option maxHeartbeats 1000000 in
theorem rlast_held {w0 w : World} {B : List Res} {x g ver syn : Nat} {v : Value} {wl : List (List UInt8 × It)} (h : Held w0 w (rBlk x 102 (rsCells g v ver syn) :: rIts v wl :: B)) (hl : wl.length ≤ 60000) (k : List UInt8) :
    Calls Tryz.prog 54 #[.pointer (some ⟨x, 0, none⟩), sv k] w fun e w' => e = .returned (lastV wl k) ∧ Held w0 w' (rBlk x 102 (rsCells g v ver syn) :: rIts v wl :: B) := by
  obtain ⟨A, c, rfl, hc1, hc2⟩ := h.pull1.its_form
  have h2 := h.block 41 #[.string ⟨#[]⟩, .bool false, .string ⟨#[]⟩, .int .i64 0]
  have RD := hid h2.pull2.its_rd
  have c1 : (w.alloc (.cells #[.string ⟨#[]⟩, .bool false, .string ⟨#[]⟩, .int .i64 0] 41)).cell? ⟨x, 1, none⟩ = some (.slice A wl.length c) := h2.pull1.blk0.cell (i := 1) rfl
  have H2 := hid h2
  have H1 := hid h
  obtain ⟨n, hn⟩ : ∃ n, n = wl.length := ⟨_, rfl⟩
  have HN := hid hn
  rw [← hn] at hc1 hl c1
  have hw : IntKind.i64.wrap ((n : Int) - 1) = (n : Int) - 1 := by rw [IntKind.wrap_i64]; omega
  unfold sv
  clear h h2 hn
  go_enter Tryz.func54, Tryz.ntmps54
  go_wp2_with fail
  go_loopw [5] (fun iv wr => ∃ j : Nat, j ≤ n ∧ iv = .int .i64 ((j : Int) - 1) ∧ lastIt wl k = lastIt (wl.take j) k ∧ wr = w.alloc (.cells #[.string ⟨#[]⟩, .bool false, .string ⟨#[]⟩, .int .i64 0] 41)) (fun iv _ => (intOf iv + 1).toNat)
  case atStart => exact ⟨n, Nat.le_refl _, rfl, by rw [List.take_of_length_le (by rw [HN.out]; exact Nat.le_refl _)], rfl⟩
  case round =>
    obtain ⟨j, hj, rfl, hlast, rfl⟩ := hrel
    have HLA := hid hlast
    clear hlast hw
    rcases Nat.eq_zero_or_pos j with rfl | hjp
    · have e0 : ((0 : Nat) : Int) - 1 = -1 := rfl
      rw [e0]
      go_wp2_with fail
      have HB := H2.out.blk0
      refine bodyPost_ret (res_cell1 rfl _ _ w.heap.size 41 _ _ rfl HB Tryz.underlying41 rfl (by kernel_rfl)) rfl ?_
      refine ⟨?_, H2.out.drop0⟩
      unfold lastV
      rw [HLA.out, List.take_zero, lastIt_nil]
      rfl
    · obtain ⟨m, rfl⟩ : ∃ m, j = m + 1 := ⟨j - 1, by omega⟩
      have e1 : ((m + 1 : Nat) : Int) - 1 = (m : Int) := by omega
      rw [e1]
      have hlk : m < wl.length := by rw [← HN.out]; omega
      obtain ⟨b, off, hA, d0, d1, d2, d3⟩ := RD.out.at hlk
      subst hA
      rw [List.take_succ_eq_append_getElem hlk] at HLA
      have HLS := hid (HLA.out.trans (lastIt_snoc (wl.take m) wl[m] k))
      generalize wl[m] = p at *
      obtain ⟨key, gone, value, at_⟩ := p
      dsimp only at d0 d1 d2 d3 HLS
      have hm0 : (0 : Int) ≤ (m : Int) := by omega
      have hmn : (m : Int) < (n : Int) := by omega
      have hwm : IntKind.i64.wrap ((m : Int) - 1) = (m : Int) - 1 := by rw [IntKind.wrap_i64]; omega
      clear e1 HLA
      by_cases he : key = k
      · subst he
        rw [if_pos rfl] at HLS
        go_wp2_with fail
        have g2 := H1.out.block 41 #[.string ⟨key.toArray⟩, .bool gone, .string ⟨value.toArray⟩, .int .i64 at_]
        refine bodyPost_ret (res_cell1 rfl _ _ w.heap.size 41 _ _ rfl g2.blk0 Tryz.underlying41 rfl (by kernel_rfl)) rfl ?_
        refine ⟨?_, g2.drop0⟩
        unfold lastV
        rw [HLS.out]
        rfl
      · rw [if_neg he] at HLS
        have hke : (key == k) = false := by rw [beq_eq_false_iff_ne]; exact he
        go_wp2_with fail
        all_goals first | exact absurd (by assumption) he | skip
        exact ⟨⟨m, by omega, by congr 1, HLS.out, trivial⟩, by show ((m : Int) - 1 + 1).toNat < ((m : Int) + 1).toNat; omega⟩

set_option maxRecDepth 100000 in
set_option maxHeartbeats 1000000 in
theorem rget_held {w0 w : World} {B : List Res} {x g ver syn : Nat} {v : Value} {wl : List (List UInt8 × It)} (h : Held w0 w (rBlk x 102 (rsCells g v ver syn) :: rIts v wl :: B)) (hl : wl.length ≤ 60000) (k : List UInt8) (hat : ∀ y, lastIt wl k = some y → 1 ≤ y.at_) :
    Calls Tryz.prog 20 #[.pointer (some ⟨x, 0, none⟩), sv k] w fun e w' => e = .returned (getV k (Kv.alive (lastIt wl k))) ∧ Held w0 w' (rBlk x 102 (rsCells g v ver syn) :: rIts v wl :: B) := by
  have h2 := h.block 41 #[.string ⟨#[]⟩, .bool false, .string ⟨#[]⟩, .int .i64 0]
  have hL := rlast_held h2.pull2.pull2 hl k
  unfold lastV at hL
  cases hg : lastIt wl k with
  | none =>
    rw [hg] at hL
    have HL := hid (show Calls _ _ _ _ (fun e w' => e = .returned (.agg #[.string ⟨#[]⟩, .bool false, .string ⟨#[]⟩, .int .i64 0]) ∧ Held w0 w' _) from hL)
    unfold sv at HL ⊢
    clear h h2 hat hL hg
    go_enter Tryz.func20, Tryz.ntmps20
    go_wp2_with fail
    refine HL.out.mono ?_
    rintro e w1 ⟨rfl, g1⟩
    have g2 := g1.block 41 #[.string ⟨#[]⟩, .bool false, .string ⟨#[]⟩, .int .i64 0]
    have z0 := g2.pull3.blk0.cell (i := 0) rfl
    have z1 := g2.pull3.blk0.cell (i := 1) rfl
    have z2 := g2.pull3.blk0.cell (i := 2) rfl
    have z3 := g2.pull3.blk0.cell (i := 3) rfl
    have f0 := g2.pull3.blk0.frozen 0
    have f1 := g2.pull3.blk0.frozen 1
    have f2 := g2.pull3.blk0.frozen 2
    have f3 := g2.pull3.blk0.frozen 3
    have G2 := hid g2
    clear g1 g2 HL
    go_wp2_with fail
    have g3 := Held.store (l1 := []) G2.out.pull3 0 (.string ⟨#[]⟩)
    have g4 := Held.store (l1 := []) g3 1 (.bool false)
    have g5 := Held.store (l1 := []) g4 2 (.string ⟨#[]⟩)
    have g6 := Held.store (l1 := []) g5 3 (.int .i64 0)
    refine bodyPost_ret (res_cell_tmp rfl _ _ w.heap.size 41 _ _ rfl g6.blk0 Tryz.underlying41 rfl (by kernel_rfl)) rfl ?_
    exact ⟨rfl, g6.drop0.drop0⟩
  | some q =>
    have hq := hat q hg
    rw [hg] at hL
    obtain ⟨gone, value, at_⟩ := q
    have HL := hid (show Calls _ _ _ _ (fun e w' => e = .returned (.agg #[.string ⟨k.toArray⟩, .bool gone, .string ⟨value.toArray⟩, .int .i64 at_]) ∧ Held w0 w' _) from hL)
    unfold sv at HL ⊢
    dsimp only at hq
    have hqb : ((at_ : Int) == 0) = false := by rw [beq_eq_false_iff_ne]; omega
    clear h h2 hat hL hg hq
    cases gone with
    | true =>
      go_enter Tryz.func20, Tryz.ntmps20
      go_wp2_with fail
      refine HL.out.mono ?_
      rintro e w1 ⟨rfl, g1⟩
      have g2 := g1.block 41 #[.string ⟨k.toArray⟩, .bool true, .string ⟨value.toArray⟩, .int .i64 at_]
      have z0 := g2.pull3.blk0.cell (i := 0) rfl
      have z1 := g2.pull3.blk0.cell (i := 1) rfl
      have z2 := g2.pull3.blk0.cell (i := 2) rfl
      have z3 := g2.pull3.blk0.cell (i := 3) rfl
      have f0 := g2.pull3.blk0.frozen 0
      have f1 := g2.pull3.blk0.frozen 1
      have f2 := g2.pull3.blk0.frozen 2
      have f3 := g2.pull3.blk0.frozen 3
      have G2 := hid g2
      clear g1 g2 HL
      go_wp2_with fail
      have g3 := Held.store (l1 := []) G2.out.pull3 0 (.string ⟨#[]⟩)
      have g4 := Held.store (l1 := []) g3 1 (.bool false)
      have g5 := Held.store (l1 := []) g4 2 (.string ⟨#[]⟩)
      have g6 := Held.store (l1 := []) g5 3 (.int .i64 0)
      refine bodyPost_ret (res_cell_tmp rfl _ _ w.heap.size 41 _ _ rfl g6.blk0 Tryz.underlying41 rfl (by kernel_rfl)) rfl ?_
      exact ⟨rfl, g6.drop0.drop0⟩
    | false =>
      go_enter Tryz.func20, Tryz.ntmps20
      go_wp2_with fail
      refine HL.out.mono ?_
      rintro e w1 ⟨rfl, g1⟩
      have g2 := g1.block 41 #[.string ⟨k.toArray⟩, .bool false, .string ⟨value.toArray⟩, .int .i64 at_]
      have z0 := g2.pull3.blk0.cell (i := 0) rfl
      have z1 := g2.pull3.blk0.cell (i := 1) rfl
      have z2 := g2.pull3.blk0.cell (i := 2) rfl
      have z3 := g2.pull3.blk0.cell (i := 3) rfl
      have f0 := g2.pull3.blk0.frozen 0
      have f1 := g2.pull3.blk0.frozen 1
      have f2 := g2.pull3.blk0.frozen 2
      have f3 := g2.pull3.blk0.frozen 3
      have G2 := hid g2
      clear g1 g2 HL
      go_wp2_with fail
      have g3 := Held.store (l1 := []) G2.out.pull3 0 (.string ⟨k.toArray⟩)
      have g4 := Held.store (l1 := []) g3 1 (.bool false)
      have g5 := Held.store (l1 := []) g4 2 (.string ⟨value.toArray⟩)
      have g6 := Held.store (l1 := []) g5 3 (.int .i64 at_)
      refine bodyPost_ret (res_cell_tmp rfl _ _ w.heap.size 41 _ _ rfl g6.blk0 Tryz.underlying41 rfl (by kernel_rfl)) rfl ?_
      exact ⟨rfl, g6.drop0.drop0⟩
end Go.Proofs.YtdbhccehbjhbpaaGreatDoor

/- the reference store: Items. -/
namespace Go.Proofs.YtdbhccehbjhbpaaGreatDoor
open Go.RowKit
open Kv (It isStep isEnd insOut allItems)

/-- append of one item. -/
theorem wpl_item {w0 w : World} {ops : Array Oper} {rest : List Oper} {o : Oper} {a : Act} {Q : Exit → Act → World → Prop} {B : List Res} (hgd : o.guard = none) (s x : Operand)
    (ho : o.op = .call { callee := .builtin .append, args := #[s, x], argTypes := #[38, 38] })
    (v : Value) (l : List (List UInt8 × It)) (n : Nat) (hn : l.length = n) (hs : a.eval s = v) (hh : Held w0 w (rIts v l :: B)) (ad : Addr) (c : Nat) (p : List UInt8 × It) (hx : a.eval x = .slice (some ad) 1 c) (hcell : ∀ j u, (itRow p)[j]? = some u → w.cell? (ad.add j) = some u) (hb : n ≤ 1000000)
    (h : ∀ A c w', Held w0 w' (rIts (.slice A (n + 1) c) (l ++ [p]) :: B) → wpList Tryz.prog ops Q rest (a.put o.dst (.slice A (n + 1) c)) w') : wpList Tryz.prog ops Q (o :: rest) a w := by
  obtain ⟨iI, ii, iz, is, ib⟩ := info_parts Tryz.infoItem
  refine wpList_append_row [] B hgd s x 38 ho 4 41 iI _ 48 Tryz.underlying38 ii iz is ib rfl (by decide) v (l.map itRow) n (by rw [List.length_map]; exact hn) hs hh ad c (itRow p) hx rfl hcell (by have := itRow_one [p]; simpa using this) (by omega) (by unfold maxLen; omega) ?_
  intro A c' w' _ _ g
  refine h A c' w' ?_
  unfold rIts
  rw [List.map_append]
  exact g

theorem less_lt {a b : List UInt8} (h : Op.bytesLess a b = true) : a < b := by rw [bytesLess_eq] at h; simpa using h
theorem not_less {a b : List UInt8} (h : Op.bytesLess a b = false) : ¬ a < b := by rw [bytesLess_eq] at h; simpa using h
section
variable (x y : List UInt8 × It) (l : List (List UInt8 × It))
theorem is_t_eq (h : y.1 = x.1) : isStep x (l, true) y = (l, true) := by unfold isStep; simp [h]
theorem is_t_ne (h : y.1 ≠ x.1) : isStep x (l, true) y = (l ++ [y], true) := by unfold isStep; simp [h]
theorem is_f_lt (h : Op.bytesLess x.1 y.1 = true) : isStep x (l, false) y = (l ++ [x] ++ [y], true) := by
  have h1 := less_lt h
  have h2 : ¬ y.1 = x.1 := fun e => List.lt_irrefl x.1 (by rw [e] at h1; exact h1)
  have h3 : x.1 ≤ y.1 := fun h => List.lt_irrefl _ (List.lt_trans h1 h)
  unfold isStep
  simp [h2, h3]
theorem is_f_eq (h : y.1 = x.1) : isStep x (l, false) y = (l ++ [x], true) := by
  have h3 : x.1 ≤ x.1 := List.lt_irrefl _
  unfold isStep
  simp [h]
theorem is_f_gt (h : Op.bytesLess x.1 y.1 = false) (hn : y.1 ≠ x.1) : isStep x (l, false) y = (l ++ [y], false) := by
  have h1 := not_less h
  have h3 : ¬ x.1 ≤ y.1 := fun hle => by
    rcases Kv.lt_or_eq_or_gt' x.1 y.1 with e | e | e
    · exact h1 e
    · exact hn e.symm
    · exact hle e
  unfold isStep
  simp [h3, hn]
end
theorem isStep_len (x : List UInt8 × It) (s : List (List UInt8 × It) × Bool) (y : List UInt8 × It) : (isStep x s y).1.length ≤ s.1.length + 2 := by
  unfold isStep
  simp only
  split <;> split <;> simp <;> omega
theorem isFold_len (x : List UInt8 × It) : ∀ (l : List (List UInt8 × It)) (s : List (List UInt8 × It) × Bool), (l.foldl (isStep x) s).1.length ≤ s.1.length + 2 * l.length := by
  intro l
  induction l with
  | nil => intro s; simp
  | cons y l ih =>
    intro s
    have h1 := ih (isStep x s y)
    have h2 := isStep_len x s y
    rw [List.foldl_cons, List.length_cons]
    omega
/-- the inner loop's list. -/
def isS (x : List UInt8 × It) (l : List (List UInt8 × It)) : List (List UInt8 × It) × Bool := l.foldl (isStep x) ([], false)
theorem isS_next (x : List UInt8 × It) {l : List (List UInt8 × It)} {k : Nat} (hk : k < l.length) : isS x (l.take (k + 1)) = isStep x (isS x (l.take k)) l[k] := by
  unfold isS
  rw [List.take_succ_eq_append_getElem hk, List.foldl_append]
  rfl
theorem isS_len (x : List UInt8 × It) (l : List (List UInt8 × It)) : (isS x l).1.length ≤ 2 * l.length := by
  have := isFold_len x l ([], false)
  unfold isS
  simpa using this
theorem allItems_next {wl : List (List UInt8 × It)} {k : Nat} (hk : k < wl.length) : allItems (wl.take (k + 1)) = isEnd wl[k] (isS wl[k] (allItems (wl.take k))) := by
  unfold allItems isS
  rw [List.take_succ_eq_append_getElem hk, List.foldl_append]
  rfl
def itCells (p : List UInt8 × It) : Array Value := #[.string ⟨p.1.toArray⟩, .bool p.2.gone, .string ⟨p.2.value.toArray⟩, .int .i64 p.2.at_]

set_option maxRecDepth 100000 in
set_option maxHeartbeats 4000000 in
theorem ritems_held {w0 w : World} {B : List Res} {x g ver syn : Nat} {v : Value} {wl : List (List UInt8 × It)} (h : Held w0 w (rBlk x 102 (rsCells g v ver syn) :: rIts v wl :: B)) (hl : wl.length ≤ 60000) :
    Calls Tryz.prog 55 #[.pointer (some ⟨x, 0, none⟩)] w fun e w' => ∃ u, e = .returned u ∧ Held w0 w' (rIts u (allItems wl) :: rBlk x 102 (rsCells g v ver syn) :: rIts v wl :: B) := by
  obtain ⟨A, c, rfl, hc1, hc2⟩ := h.pull1.its_form
  have c1 : w.cell? ⟨x, 1, none⟩ = some (.slice A wl.length c) := h.blk0.cell (i := 1) rfl
  have HH := hid (show Held w0 w (rIts (.slice none 0 0) (allItems (wl.take 0)) :: rBlk x 102 (rsCells g (.slice A wl.length c) ver syn) :: rIts (.slice A wl.length c) wl :: B) from h.its_nil)
  obtain ⟨n, hn⟩ : ∃ n, n = wl.length := ⟨_, rfl⟩
  have HN := hid hn
  rw [← hn] at hc1 hl c1 HH ⊢
  clear h hn
  go_enter Tryz.func55, Tryz.ntmps55
  go_wp2_with fail
  go_loopw [3, 15] (fun out iv wr => ∃ k : Nat, k ≤ n ∧ iv = .int .i64 k ∧ Held w0 wr (rIts out (allItems (wl.take k)) :: rBlk x 102 (rsCells g (.slice A n c) ver syn) :: rIts (.slice A n c) wl :: B)) (fun _ iv _ => n - (intOf iv).toNat)
  case atStart => exact ⟨0, Nat.zero_le _, rfl, HH.out⟩
  case round =>
    clear HH c1
    obtain ⟨k, hk, rfl, hh⟩ := hrel
    obtain ⟨oA, oc, rfl, ho1, ho2⟩ := hh.its_form
    by_cases hlt : k < n
    · have hlk : k < wl.length := by rw [← HN.out]; exact hlt
      obtain ⟨b, off, hA, d0, d1, d2, d3⟩ := hh.pull2.its_rd.at hlk
      subst hA
      have HNX := hid (allItems_next hlk)
      have hcl : (allItems (wl.take k)).length ≤ 60000 := by
        have := Kv.allItems_len (wl.take k)
        rw [List.length_take] at this
        omega
      generalize wl[k] = p at *
      generalize allItems (wl.take k) = cur at *
      obtain ⟨m, hm⟩ : ∃ m, m = cur.length := ⟨_, rfl⟩
      have HM := hid hm
      rw [← hm] at hh ho1 hcl ⊢
      obtain ⟨pk, pg, pv, pa⟩ := p
      dsimp only at d0 d1 d2 d3
      have hk0 : (0 : Int) ≤ (k : Int) := by omega
      have hltn : (k : Int) < (n : Int) := by omega
      have g8 := hh.block 41 #[.string ⟨pk.toArray⟩, .bool pg, .string ⟨pv.toArray⟩, .int .i64 pa]
      have HH := hid (show Held w0 _ (rIts (.slice none 0 0) (isS (pk, ⟨pg, pv, pa⟩) (cur.take 0)).1 :: rBlk wr.heap.size 41 #[.string ⟨pk.toArray⟩, .bool pg, .string ⟨pv.toArray⟩, .int .i64 pa] :: rIts (.slice oA m oc) cur :: _) from g8.its_nil)
      clear hh g8 hm
      go_wp2_with fail
      generalize wr.heap.size = xb at *
      go_loopw [6, 7, 21] (fun lv dv iv wq => ∃ j : Nat, j ≤ m ∧ iv = .int .i64 j ∧ dv = .bool (isS (pk, ⟨pg, pv, pa⟩) (cur.take j)).2 ∧ Held w0 wq (rIts lv (isS (pk, ⟨pg, pv, pa⟩) (cur.take j)).1 :: rBlk xb 41 #[.string ⟨pk.toArray⟩, .bool pg, .string ⟨pv.toArray⟩, .int .i64 pa] :: rIts (.slice oA m oc) cur :: rBlk x 102 (rsCells g (.slice (some ⟨b, off, none⟩) n c) ver syn) :: rIts (.slice (some ⟨b, off, none⟩) n c) wl :: B)) (fun _ _ iv _ => m - (intOf iv).toNat)
      case atStart => exact ⟨0, Nat.zero_le _, rfl, rfl, HH.out⟩
      case round =>
        clear HH d0 d1 d2 d3
        obtain ⟨j, hj, rfl, rfl, hh⟩ := hrel
        obtain ⟨lA, lc, rfl, hl1, hl2⟩ := hh.its_form
        have hol : (isS (pk, ⟨pg, pv, pa⟩) (cur.take j)).1.length ≤ 120000 := by
          have := isS_len (pk, ⟨pg, pv, pa⟩) (cur.take j)
          rw [List.length_take] at this
          omega
        have z0 : wr.cell? ⟨xb, 0, none⟩ = some (.string ⟨pk.toArray⟩) := hh.pull1.blk0.cell (i := 0) rfl
        have z1 : wr.cell? ⟨xb, 1, none⟩ = some (.bool pg) := hh.pull1.blk0.cell (i := 1) rfl
        have z2 : wr.cell? ⟨xb, 2, none⟩ = some (.string ⟨pv.toArray⟩) := hh.pull1.blk0.cell (i := 2) rfl
        have z3 : wr.cell? ⟨xb, 3, none⟩ = some (.int .i64 pa) := hh.pull1.blk0.cell (i := 3) rfl
        by_cases hjl : j < m
        · have hlj : j < cur.length := by rw [← HM.out]; exact hjl
          obtain ⟨b2, off2, hA2, e0, e1, e2, e3⟩ := hh.pull2.its_rd.at hlj
          subst hA2
          have HSX := hid (isS_next (pk, ⟨pg, pv, pa⟩) hlj)
          generalize cur[j] = q at *
          obtain ⟨yk, yg, yv, ya⟩ := q
          dsimp only at e0 e1 e2 e3
          have hj0 : (0 : Int) ≤ (j : Int) := by omega
          have hjn : (j : Int) < (m : Int) := by omega
          have g9 := hh.block 41 #[.string ⟨yk.toArray⟩, .bool yg, .string ⟨yv.toArray⟩, .int .i64 ya]
          have GY := hid g9.pull1
          have G := hid g9.drop0
          have t0 := g9.pull2.blk0.cell (i := 0) rfl
          have t1 := g9.pull2.blk0.cell (i := 1) rfl
          have t2 := g9.pull2.blk0.cell (i := 2) rfl
          have t3 := g9.pull2.blk0.cell (i := 3) rfl
          clear hh g9
          generalize isS (pk, ⟨pg, pv, pa⟩) (cur.take j) = st at *
          obtain ⟨out, dn⟩ := st
          dsimp only at G GY hol hl1 ⊢
          obtain ⟨on, hon⟩ : ∃ on, on = out.length := ⟨_, rfl⟩
          have HON := hid hon
          rw [← hon] at G GY hol hl1 ⊢
          clear hon
          cases dn with
          | true =>
            by_cases he : yk = pk
            · subst he
              have HSX := hid (HSX.out.trans (is_t_eq (yk, ⟨pg, pv, pa⟩) (yk, ⟨yg, yv, ya⟩) out rfl))
              go_wp2_with fail
              refine ⟨⟨j + 1, by omega, by congr 1, by rw [HSX.out], ?_⟩, by show m - ((j : Int) + 1).toNat < m - (j : Int).toNat; omega⟩
              rw [HSX.out]
              exact G.out
            · have HSX := hid (HSX.out.trans (is_t_ne (pk, ⟨pg, pv, pa⟩) (yk, ⟨yg, yv, ya⟩) out he))
              have heb : (yk == pk) = false := by rw [beq_eq_false_iff_ne]; exact he
              go_wp2_with (at_builtin; refine wpl_item rfl _ _ rfl _ out on HON.out.symm rfl (G.out.alloc _) _ _ (yk, ⟨yg, yv, ya⟩) rfl (World.news_of_block (heap_at _ _ (asz _ _))) (by omega) ?c1)
              case c1 =>
                intro A' c' w' g
                have G2 := hid g
                clear g G GY
                go_wp2_with fail
                refine ⟨⟨j + 1, by omega, by congr 1, by rw [HSX.out], ?_⟩, by show m - ((j : Int) + 1).toNat < m - (j : Int).toNat; omega⟩
                rw [HSX.out]
                exact G2.out
          | false =>
            by_cases he : yk = pk
            · subst he
              have HSX := hid (HSX.out.trans (is_f_eq (yk, ⟨pg, pv, pa⟩) (yk, ⟨yg, yv, ya⟩) out rfl))
              go_wp2_with (at_builtin; refine wpl_item rfl _ _ rfl _ out on HON.out.symm rfl (GY.out.alloc _) _ _ (yk, ⟨pg, pv, pa⟩) rfl (World.news_of_block (heap_at _ _ (asz _ _))) (by omega) ?c1)
              case c1 =>
                intro A' c' w' g
                have u0 := g.pull1.blk0.cell (i := 0) rfl
                have v0 := g.pull2.blk0.cell (i := 0) rfl
                have G2 := hid g
                clear g G GY
                go_wp2_with fail
                refine ⟨⟨j + 1, by omega, by congr 1, by rw [HSX.out], ?_⟩, by show m - ((j : Int) + 1).toNat < m - (j : Int).toNat; omega⟩
                rw [HSX.out]
                exact G2.out.pull1.drop0
            · have heb : (yk == pk) = false := by rw [beq_eq_false_iff_ne]; exact he
              have heb2 : (pk == yk) = false := by rw [beq_eq_false_iff_ne]; exact fun e => he e.symm
              cases hb : Op.bytesLess pk yk with
              | true =>
                have HSX := hid (HSX.out.trans (is_f_lt (pk, ⟨pg, pv, pa⟩) (yk, ⟨yg, yv, ya⟩) out hb))
                go_wp2_with (at_builtin; refine wpl_item rfl _ _ rfl _ out on HON.out.symm rfl (GY.out.alloc _) _ _ (pk, ⟨pg, pv, pa⟩) rfl (World.news_of_block (heap_at _ _ (asz _ _))) (by omega) ?c1)
                case c1 =>
                  intro A' c' w' g
                  have u0 := g.pull1.blk0.cell (i := 0) rfl
                  have u1 := g.pull1.blk0.cell (i := 1) rfl
                  have u2 := g.pull1.blk0.cell (i := 2) rfl
                  have u3 := g.pull1.blk0.cell (i := 3) rfl
                  have v0 := g.pull2.blk0.cell (i := 0) rfl
                  have G2 := hid g
                  have HON2 := hid (show (out ++ [((pk, ⟨pg, pv, pa⟩) : List UInt8 × It)]).length = on + 1 by rw [List.length_append, List.length_singleton, ← HON.out])
                  generalize out ++ [((pk, ⟨pg, pv, pa⟩) : List UInt8 × It)] = out2 at *
                  generalize wr.heap.size = yb at *
                  clear g G GY
                  go_wp2_with (at_builtin; refine wpl_item rfl _ _ rfl _ out2 (on + 1) HON2.out rfl (G2.out.alloc _) _ _ (yk, ⟨yg, yv, ya⟩) rfl (World.news_of_block (heap_alloc_new _ _)) (by omega) ?c2)
                  case c2 =>
                    intro A2 c2 w2 g
                    have G3 := hid g.pull1.drop0
                    clear g G2
                    go_wp2_with fail
                    refine ⟨⟨j + 1, by omega, by congr 1, by rw [HSX.out], ?_⟩, by show m - ((j : Int) + 1).toNat < m - (j : Int).toNat; omega⟩
                    rw [HSX.out]
                    exact G3.out
              | false =>
                have HSX := hid (HSX.out.trans (is_f_gt (pk, ⟨pg, pv, pa⟩) (yk, ⟨yg, yv, ya⟩) out hb he))
                go_wp2_with (at_builtin; refine wpl_item rfl _ _ rfl _ out on HON.out.symm rfl (G.out.alloc _) _ _ (yk, ⟨yg, yv, ya⟩) rfl (World.news_of_block (heap_at _ _ (asz _ _))) (by omega) ?c1)
                case c1 =>
                  intro A' c' w' g
                  have G2 := hid g
                  clear g G GY
                  go_wp2_with fail
                  refine ⟨⟨j + 1, by omega, by congr 1, by rw [HSX.out], ?_⟩, by show m - ((j : Int) + 1).toNat < m - (j : Int).toNat; omega⟩
                  rw [HSX.out]
                  exact G2.out
        · have hjn : ¬ ((j : Int) < (m : Int)) := by omega
          have hjm : j = m := by omega
          subst hjm
          rw [List.take_of_length_le (by rw [← HM.out]; exact Nat.le_refl _)] at hh hol hl1 ⊢
          have G := hid hh
          clear hh
          generalize isS (pk, ⟨pg, pv, pa⟩) cur = st at *
          obtain ⟨out, dn⟩ := st
          dsimp only at G hol hl1 ⊢
          obtain ⟨on, hon⟩ : ∃ on, on = out.length := ⟨_, rfl⟩
          have HON := hid hon
          rw [← hon] at G hol hl1 ⊢
          clear hon
          cases dn with
          | true =>
            have HE := hid (HNX.out.trans (show isEnd _ (out, true) = out from rfl))
            clear HNX
            go_wp2_with fail
            refine ⟨⟨k + 1, by omega, by congr 1, ?_⟩, by show n - ((k : Int) + 1).toNat < n - (k : Int).toNat; omega⟩
            rw [HE.out]
            exact G.out.pull1.drop0.pull1.drop0
          | false =>
            have HE := hid (HNX.out.trans (show isEnd _ (out, false) = out ++ [(pk, ⟨pg, pv, pa⟩)] from rfl))
            clear HNX
            go_wp2_with (at_builtin; refine wpl_item rfl _ _ rfl _ out on HON.out.symm rfl (G.out.alloc _) _ _ (pk, ⟨pg, pv, pa⟩) rfl (World.news_of_block (heap_alloc_new _ _)) (by omega) ?c1)
            case c1 =>
              intro A' c' w' g
              have G2 := hid g
              clear g G
              go_wp2_with fail
              refine ⟨⟨k + 1, by omega, by congr 1, ?_⟩, by show n - ((k : Int) + 1).toNat < n - (k : Int).toNat; omega⟩
              rw [HE.out]
              exact G2.out.pull1.drop0.pull1.drop0
    · have hltn : ¬ ((k : Int) < (n : Int)) := by omega
      rw [List.take_of_length_le (by rw [← HN.out]; omega)] at hh ⊢
      have G := hid hh
      clear hh
      generalize (allItems wl).length = on at *
      go_wp2_with fail
      go_ret
      exact ⟨_, rfl, G.out⟩
end Go.Proofs.YtdbhccehbjhbpaaGreatDoor

/- the reference store: Scan, Since. -/
namespace Go.Proofs.YtdbhccehbjhbpaaGreatDoor
open Go.RowKit
open Kv (It allItems inScan)

theorem filter_yes {f : List UInt8 × It → Bool} {l : List (List UInt8 × It)} {k : Nat} (hk : k < l.length) (h : f l[k] = true) : (l.take (k + 1)).filter f = (l.take k).filter f ++ [l[k]] := by
  rw [List.take_succ_eq_append_getElem hk, List.filter_append, List.filter_cons_of_pos h]
  rfl
theorem filter_no {f : List UInt8 × It → Bool} {l : List (List UInt8 × It)} {k : Nat} (hk : k < l.length) (h : f l[k] = false) : (l.take (k + 1)).filter f = (l.take k).filter f := by
  rw [List.take_succ_eq_append_getElem hk, List.filter_append, List.filter_cons_of_neg (by simp [h])]
  simp

set_option maxRecDepth 100000 in
set_option maxHeartbeats 1000000 in
theorem rsince_held {w0 w : World} {B : List Res} {x g ver syn : Nat} {v : Value} {wl : List (List UInt8 × It)} (h : Held w0 w (rBlk x 102 (rsCells g v ver syn) :: rIts v wl :: B)) (hl : wl.length ≤ 60000) (z : Int) :
    Calls Tryz.prog 23 #[.pointer (some ⟨x, 0, none⟩), .int .i64 z] w fun e w' => ∃ u, e = .returned u ∧ Held w0 w' (rIts u ((allItems wl).filter fun p => decide (z < (p.2.at_ : Int))) :: rBlk x 102 (rsCells g v ver syn) :: rIts v wl :: B) := by
  have HI := hid (ritems_held h hl)
  have HAL := hid (show (allItems wl).length ≤ 60000 by have := Kv.allItems_len wl; omega)
  obtain ⟨f, hf⟩ : ∃ f : List UInt8 × It → Bool, f = fun p => decide (z < (p.2.at_ : Int)) := ⟨_, rfl⟩
  have HF := hid (fun p => show f p = decide (z < (p.2.at_ : Int)) by rw [hf])
  rw [← hf]
  generalize allItems wl = all at *
  clear h hf
  go_enter Tryz.func23, Tryz.ntmps23
  go_wp2_with fail
  refine HI.out.mono ?_
  rintro e w1 ⟨u, rfl, g1⟩
  obtain ⟨A, c, rfl, hc1, hc2⟩ := g1.its_form
  obtain ⟨n, hn⟩ : ∃ n, n = all.length := ⟨_, rfl⟩
  have HN := hid hn
  rw [← hn] at g1 hc1 HAL ⊢
  have HH := hid (show Held w0 w1 (rIts (.slice none 0 0) ((all.take 0).filter f) :: rIts (.slice A n c) all :: _) from g1.its_nil)
  clear g1 HI hn
  go_wp2_with fail
  go_loopw [5, 11] (fun out iv wr => ∃ k : Nat, k ≤ n ∧ iv = .int .i64 k ∧ Held w0 wr (rIts out ((all.take k).filter f) :: rIts (.slice A n c) all :: rBlk x 102 (rsCells g v ver syn) :: rIts v wl :: B)) (fun _ iv _ => n - (intOf iv).toNat)
  case atStart => exact ⟨0, Nat.zero_le _, rfl, HH.out⟩
  case round =>
    clear HH
    obtain ⟨k, hk, rfl, hh⟩ := hrel
    obtain ⟨oA, oc, rfl, ho1, ho2⟩ := hh.its_form
    by_cases hlt : k < n
    · have hlk : k < all.length := by rw [← HN.out]; exact hlt
      obtain ⟨b, off, hA, d0, d1, d2, d3⟩ := hh.pull1.its_rd.at hlk
      subst hA
      have HY := hid (filter_yes (f := f) hlk)
      have HO := hid (filter_no (f := f) hlk)
      have hpl : ((all.take k).filter f).length ≤ 60000 := by
        have h1 := List.length_filter_le f (all.take k)
        have h2 := HAL.out
        rw [List.length_take] at h1
        omega
      generalize all[k] = p at *
      obtain ⟨pk, pg, pv, pa⟩ := p
      have HFP := hid (HF.out (pk, ⟨pg, pv, pa⟩))
      dsimp only at d0 d1 d2 d3 HFP
      have hk0 : (0 : Int) ≤ (k : Int) := by omega
      have hltn : (k : Int) < (n : Int) := by omega
      generalize (all.take k).filter f = out at *
      obtain ⟨on, hon⟩ : ∃ on, on = out.length := ⟨_, rfl⟩
      have HON := hid hon
      rw [← hon] at hh hpl ho1 ⊢
      have G := hid (hh.alloc (.cells #[.string ⟨pk.toArray⟩, .bool pg, .string ⟨pv.toArray⟩, .int .i64 pa] 41))
      clear hh hon
      by_cases hz : z < (pa : Int)
      · rw [show decide (z < (pa : Int)) = true from decide_eq_true hz] at HFP
        have HE := hid (HY.out HFP.out)
        clear HY HO HFP
        go_wp2_with (at_builtin; refine wpl_item rfl _ _ rfl _ out on HON.out.symm rfl (G.out.alloc _) _ _ (pk, ⟨pg, pv, pa⟩) rfl (World.news_of_block (heap_at _ _ (asz _ _))) (by omega) ?c1)
        case c1 =>
          intro A' c' w' g
          have G2 := hid g
          clear g G
          go_wp2_with fail
          refine ⟨⟨k + 1, by omega, by congr 1, ?_⟩, by show n - ((k : Int) + 1).toNat < n - (k : Int).toNat; omega⟩
          rw [HE.out]
          exact G2.out
      · rw [show decide (z < (pa : Int)) = false from decide_eq_false hz] at HFP
        have HE := hid (HO.out HFP.out)
        clear HY HO HFP
        go_wp2_with fail
        refine ⟨⟨k + 1, by omega, by congr 1, ?_⟩, by show n - ((k : Int) + 1).toNat < n - (k : Int).toNat; omega⟩
        rw [HE.out]
        exact G.out
    · have hltn : ¬ ((k : Int) < (n : Int)) := by omega
      rw [List.take_of_length_le (by rw [← HN.out]; omega)] at hh ⊢
      have G := hid hh
      clear hh
      generalize (all.filter f).length = on at *
      go_wp2_with fail
      go_ret
      exact ⟨_, rfl, G.out.pull1.drop0⟩

theorem scan_bool (fr till k v : List UInt8) (a : Nat) : inScan fr till k ⟨false, v, a⟩ = (!Op.bytesLess k fr && (till.isEmpty || Op.bytesLess k till)) := by
  unfold inScan
  rw [bytesLess_eq, bytesLess_eq]
  have h1 : decide (fr ≤ k) = !decide (k < fr) := by
    by_cases h : k < fr
    · have : ¬ fr ≤ k := fun e => e h
      simp [h, this]
    · have : fr ≤ k := h
      simp [h, this]
  have h2 : decide (till = []) = till.isEmpty := by cases till <;> simp
  rw [h1, h2]
  simp
set_option maxRecDepth 100000 in
set_option maxHeartbeats 1000000 in
theorem rscan_held {w0 w : World} {B : List Res} {x g ver syn : Nat} {v : Value} {wl : List (List UInt8 × It)} (h : Held w0 w (rBlk x 102 (rsCells g v ver syn) :: rIts v wl :: B)) (hl : wl.length ≤ 60000) (fr till : List UInt8) :
    Calls Tryz.prog 22 #[.pointer (some ⟨x, 0, none⟩), sv fr, sv till] w fun e w' => ∃ u, e = .returned u ∧ Held w0 w' (rIts u ((allItems wl).filter fun p => inScan fr till p.1 p.2) :: rBlk x 102 (rsCells g v ver syn) :: rIts v wl :: B) := by
  have HI := hid (ritems_held h hl)
  have HAL := hid (show (allItems wl).length ≤ 60000 by have := Kv.allItems_len wl; omega)
  obtain ⟨f, hf⟩ : ∃ f : List UInt8 × It → Bool, f = fun p => inScan fr till p.1 p.2 := ⟨_, rfl⟩
  have HF := hid (fun p => show f p = inScan fr till p.1 p.2 by rw [hf])
  rw [← hf]
  generalize allItems wl = all at *
  unfold sv
  clear h hf
  go_enter Tryz.func22, Tryz.ntmps22
  go_wp2_with fail
  refine HI.out.mono ?_
  rintro e w1 ⟨u, rfl, g1⟩
  obtain ⟨A, c, rfl, hc1, hc2⟩ := g1.its_form
  obtain ⟨n, hn⟩ : ∃ n, n = all.length := ⟨_, rfl⟩
  have HN := hid hn
  rw [← hn] at g1 hc1 HAL ⊢
  have HH := hid (show Held w0 w1 (rIts (.slice none 0 0) ((all.take 0).filter f) :: rIts (.slice A n c) all :: _) from g1.its_nil)
  clear g1 HI hn
  go_wp2_with fail
  go_loopw [7, 13] (fun out iv wr => ∃ k : Nat, k ≤ n ∧ iv = .int .i64 k ∧ Held w0 wr (rIts out ((all.take k).filter f) :: rIts (.slice A n c) all :: rBlk x 102 (rsCells g v ver syn) :: rIts v wl :: B)) (fun _ iv _ => n - (intOf iv).toNat)
  case atStart => exact ⟨0, Nat.zero_le _, rfl, HH.out⟩
  case round =>
    clear HH
    obtain ⟨k, hk, rfl, hh⟩ := hrel
    obtain ⟨oA, oc, rfl, ho1, ho2⟩ := hh.its_form
    by_cases hlt : k < n
    · have hlk : k < all.length := by rw [← HN.out]; exact hlt
      obtain ⟨b, off, hA, d0, d1, d2, d3⟩ := hh.pull1.its_rd.at hlk
      subst hA
      have HY := hid (filter_yes (f := f) hlk)
      have HO := hid (filter_no (f := f) hlk)
      have hpl : ((all.take k).filter f).length ≤ 60000 := by
        have h1 := List.length_filter_le f (all.take k)
        have h2 := HAL.out
        rw [List.length_take] at h1
        omega
      generalize all[k] = p at *
      obtain ⟨pk, pg, pv, pa⟩ := p
      have HFP := hid (HF.out (pk, ⟨pg, pv, pa⟩))
      dsimp only at d0 d1 d2 d3 HFP
      have hk0 : (0 : Int) ≤ (k : Int) := by omega
      have hltn : (k : Int) < (n : Int) := by omega
      generalize (all.take k).filter f = out at *
      obtain ⟨on, hon⟩ : ∃ on, on = out.length := ⟨_, rfl⟩
      have HON := hid hon
      rw [← hon] at hh hpl ho1 ⊢
      have G := hid (hh.alloc (.cells #[.string ⟨pk.toArray⟩, .bool pg, .string ⟨pv.toArray⟩, .int .i64 pa] 41))
      clear hh hon
      cases pg with
      | true =>
        have HE := hid (HO.out (HFP.out.trans (by unfold inScan; rfl)))
        clear HY HO HFP
        go_wp2_with fail
        refine ⟨⟨k + 1, by omega, by congr 1, ?_⟩, by show n - ((k : Int) + 1).toNat < n - (k : Int).toNat; omega⟩
        rw [HE.out]
        exact G.out
      | false =>
        rw [scan_bool] at HFP
        cases h1 : Op.bytesLess pk fr with
        | true =>
          rw [h1] at HFP
          have HE := hid (HO.out (HFP.out.trans rfl))
          clear HY HO HFP
          go_wp2_with fail
          refine ⟨⟨k + 1, by omega, by congr 1, ?_⟩, by show n - ((k : Int) + 1).toNat < n - (k : Int).toNat; omega⟩
          rw [HE.out]
          exact G.out
        | false =>
          rw [h1] at HFP
          cases h2 : till.isEmpty with
          | true =>
            rw [h2] at HFP
            have HE := hid (HY.out (HFP.out.trans rfl))
            clear HY HO HFP
            go_wp2_with (at_builtin; refine wpl_item rfl _ _ rfl _ out on HON.out.symm rfl (G.out.alloc _) _ _ (pk, ⟨false, pv, pa⟩) rfl (World.news_of_block (heap_at _ _ (asz _ _))) (by omega) ?c1)
            case c1 =>
              intro A' c' w' g
              have G2 := hid g
              clear g G
              go_wp2_with fail
              refine ⟨⟨k + 1, by omega, by congr 1, ?_⟩, by show n - ((k : Int) + 1).toNat < n - (k : Int).toNat; omega⟩
              rw [HE.out]
              exact G2.out
          | false =>
            rw [h2] at HFP
            cases h3 : Op.bytesLess pk till with
            | true =>
              rw [h3] at HFP
              have HE := hid (HY.out (HFP.out.trans rfl))
              clear HY HO HFP
              go_wp2_with (at_builtin; refine wpl_item rfl _ _ rfl _ out on HON.out.symm rfl (G.out.alloc _) _ _ (pk, ⟨false, pv, pa⟩) rfl (World.news_of_block (heap_at _ _ (asz _ _))) (by omega) ?c1)
              case c1 =>
                intro A' c' w' g
                have G2 := hid g
                clear g G
                go_wp2_with fail
                refine ⟨⟨k + 1, by omega, by congr 1, ?_⟩, by show n - ((k : Int) + 1).toNat < n - (k : Int).toNat; omega⟩
                rw [HE.out]
                exact G2.out
            | false =>
              rw [h3] at HFP
              have HE := hid (HO.out (HFP.out.trans rfl))
              clear HY HO HFP
              go_wp2_with fail
              refine ⟨⟨k + 1, by omega, by congr 1, ?_⟩, by show n - ((k : Int) + 1).toNat < n - (k : Int).toNat; omega⟩
              rw [HE.out]
              exact G.out
    · have hltn : ¬ ((k : Int) < (n : Int)) := by omega
      rw [List.take_of_length_le (by rw [← HN.out]; omega)] at hh ⊢
      have G := hid hh
      clear hh
      generalize (all.filter f).length = on at *
      go_wp2_with fail
      go_ret
      exact ⟨_, rfl, G.out.pull1.drop0⟩
end Go.Proofs.YtdbhccehbjhbpaaGreatDoor
