/- Maps, of this session's own: a block that is a map whose entries are L, in whatever order; look-up, store, delete, len, range. Nothing of the program. -/
import Derived.Test.YtcdeknbbeghljaaB0
import Derived.Maps.RangeRun
namespace Go.Proofs.Ytcdeknbbeghljaa
open Go.RowKit
open Go.ChangeMaps (setBlock)
open Go.Maps (Keyed)

def entL (es : Array MapEntry) : List (Value × Value) := es.toList.map fun e => (e.key, e.val)

structure MapIs (P : Program) (kt : TypeId) (es : Array MapEntry) (clk : Nat) (L : List (Value × Value)) : Prop where
  young : ∀ e ∈ es.toList, e.born < clk
  stamps : (es.toList.map (·.born)).Nodup
  keyed : ∀ e ∈ es.toList, ∃ l, keyOf P kt e.key = some l
  apart : (es.toList.map (·.key)).Nodup
  perm : (entL es).Perm L

/-- Block b is a map, keyed by type kt, whose entries are L. -/
def MapAt (P : Program) (kt : TypeId) (w : World) (b : Nat) (L : List (Value × Value)) : Prop := ∃ es clk, w.heap[b]? = some (.map es clk) ∧ MapIs P kt es clk L

section
variable {P : Program} {kt : TypeId} {w w' : World} {b : Nat} {L L' L0 : List (Value × Value)}

theorem MapIs.perm' {es : Array MapEntry} {clk : Nat} (h : MapIs P kt es clk L) (hp : L.Perm L') : MapIs P kt es clk L' := ⟨h.young, h.stamps, h.keyed, h.apart, h.perm.trans hp⟩
theorem MapAt.perm (h : MapAt P kt w b L) (hp : L.Perm L') : MapAt P kt w b L' := let ⟨es, clk, hb, hm⟩ := h; ⟨es, clk, hb, hm.perm' hp⟩
theorem MapAt.keep (h : MapAt P kt w b L) (e : w'.heap[b]? = w.heap[b]?) : MapAt P kt w' b L := let ⟨es, clk, hb, hm⟩ := h; ⟨es, clk, e.trans hb, hm⟩
theorem MapAt.lt (h : MapAt P kt w b L) : b < w.heap.size := let ⟨_, _, hb, _⟩ := h; lt_of_heap hb
theorem MapAt.mod {S : Nat → Prop} (h : MapAt P kt w b L) (hm : Mod S w w') (hS : ¬ S b) : MapAt P kt w' b L := h.keep (hm.block b h.lt hS)
theorem entL_keys (es : Array MapEntry) : (entL es).map (·.1) = es.toList.map (·.key) := by simp [entL]
theorem MapAt.nodup (h : MapAt P kt w b L) : (L.map (·.1)).Nodup := by
  obtain ⟨es, clk, _, hm⟩ := h
  have := hm.apart
  rw [← entL_keys] at this
  exact ((hm.perm.map _).nodup_iff).1 this
theorem MapAt.keyed (h : MapAt P kt w b L) : ∀ p ∈ L, ∃ l, keyOf P kt p.1 = some l := by
  obtain ⟨es, clk, _, hm⟩ := h
  intro p hp
  have := hm.perm.mem_iff.2 hp
  obtain ⟨e, he, rfl⟩ := List.mem_map.1 this
  exact hm.keyed e he
theorem MapAt.made (P : Program) (kt : TypeId) (w : World) : MapAt P kt (w.alloc (.map #[] 0)) w.heap.size [] :=
  ⟨#[], 0, heap_alloc_new w _, by simp, by simp, by simp, by simp, by simp [entL]⟩
theorem MapAt.size (h : MapAt P kt w b L) : ∃ es clk, w.heap[b]? = some (.map es clk) ∧ es.size = L.length := by
  obtain ⟨es, clk, hb, hm⟩ := h
  exact ⟨es, clk, hb, by have := hm.perm.length_eq; simpa [entL] using this⟩

theorem setBlock_at (w : World) {b : Nat} (o : Obj) (h : b < w.heap.size) : (setBlock w b o).heap[b]? = some o := by
  simp [setBlock, h]
theorem setBlock_other (w : World) {b k : Nat} (o : Obj) (h : b ≠ k) : (setBlock w b o).heap[k]? = w.heap[k]? := by
  simp [setBlock, Array.getElem?_setIfInBounds_ne h]
theorem setBlock_size (w : World) (b : Nat) (o : Obj) : (setBlock w b o).heap.size = w.heap.size := by simp [setBlock]

/-- what the search for a key comes to. -/
theorem MapIs.find (K : Keyed P kt) {es : Array MapEntry} {clk : Nat} (h : MapIs P kt es clk L) (w : World) {k : Value} {l : Lit} (hk : keyOf P kt k = some l) :
    ((Instr.findKey kt k es.toList).run P w = .ok none w ∧ ∀ p ∈ L, p.1 ≠ k) ∨
    ∃ (j : Nat) (e : MapEntry), (Instr.findKey kt k es.toList).run P w = .ok (some (j, e.val)) w ∧ es.toList[j]? = some e ∧ e.key = k ∧ (k, e.val) ∈ L := by
  rcases K.find w hk es.toList h.keyed with ⟨h1, h2⟩ | ⟨j, e, h1, h2, h3⟩
  · refine .inl ⟨h1, fun p hp => ?_⟩
    obtain ⟨e, he, rfl⟩ := List.mem_map.1 (h.perm.mem_iff.2 hp)
    exact h2 e he
  · exact .inr ⟨j, e, h1, h2, h3, h.perm.mem_iff.1 (List.mem_map.2 ⟨e, List.mem_of_getElem? h2, by rw [h3]⟩)⟩

theorem uniq_val {L : List (Value × Value)} (hn : (L.map (·.1)).Nodup) {k v v' : Value} (h : (k, v) ∈ L) (h' : (k, v') ∈ L) : v = v' := by
  induction L with
  | nil => cases h
  | cons p r ih =>
    simp only [List.map_cons, List.nodup_cons, List.mem_map, not_exists, not_and] at hn
    rcases List.mem_cons.1 h with e1 | h
    · rcases List.mem_cons.1 h' with e2 | h'
      · rw [← e1] at e2; exact (Prod.mk.inj e2).2.symm
      · exact absurd (by rw [← e1]) (hn.1 (k, v') h')
    · rcases List.mem_cons.1 h' with e2 | h'
      · exact absurd (by rw [← e2]) (hn.1 (k, v) h)
      · exact ih hn.2 h h'

variable {t e : TypeId}

theorem MapAt.lookup_hit (K : Keyed P kt) (ht : P.underlying t = some (.map kt e)) (h : MapAt P kt w b L) {k v : Value} {l : Lit} (hk : keyOf P kt k = some l) (hm : (k, v) ∈ L) (ok : Bool) :
    (Instr.lookup t (.map (some b)) k ok).run P w = .ok (if ok then .tuple #[v, .bool true] else v) w := by
  have hn := h.nodup
  obtain ⟨es, clk, hb, hi⟩ := h
  rcases hi.find K w hk with ⟨_, h2⟩ | ⟨j, e0, h1, _, _, h4⟩
  · exact absurd rfl (h2 _ hm)
  · have := uniq_val hn hm h4
    subst this
    simp [Instr.lookup, run_underlying ht, MapKept.run_getObj_map hb, K.check w _ hk, h1, Result.andThen]

theorem MapAt.lookup_miss (K : Keyed P kt) (ht : P.underlying t = some (.map kt e)) (h : MapAt P kt w b L) {z : Value} (hz : (zeroValue e).run P w = .ok z w) {k : Value} {l : Lit} (hk : keyOf P kt k = some l) (hm : ∀ p ∈ L, p.1 ≠ k) (ok : Bool) :
    (Instr.lookup t (.map (some b)) k ok).run P w = .ok (if ok then .tuple #[z, .bool false] else z) w := by
  obtain ⟨es, clk, hb, hi⟩ := h
  rcases hi.find K w hk with ⟨h1, _⟩ | ⟨j, e0, _, _, _, h4⟩
  · simp [Instr.lookup, run_underlying ht, MapKept.run_getObj_map hb, K.check w _ hk, h1, hz, Result.andThen]
  · exact absurd rfl (hm _ h4)

theorem MapAt.store_new (K : Keyed P kt) (ht : P.underlying t = some (.map kt e)) (h : MapAt P kt w b L) {k : Value} {l : Lit} (hk : keyOf P kt k = some l) (hm : ∀ p ∈ L, p.1 ≠ k) (v : Value) :
    ∃ o, (Instr.mapUpdate t (.map (some b)) k v).run P w = .ok () (setBlock w b o) ∧ MapAt P kt (setBlock w b o) b ((k, v) :: L) := by
  have hlt := h.lt
  obtain ⟨es, clk, hb, hi⟩ := h
  rcases hi.find K w hk with ⟨h1, _⟩ | ⟨j, e0, _, _, _, h4⟩
  · refine ⟨.map (es.push ⟨k, v, clk⟩) (clk + 1), ?_, _, _, setBlock_at w _ hlt, ?_, ?_, ?_, ?_, ?_⟩
    · simp [Instr.mapUpdate, run_underlying ht, MapKept.run_getObj_map hb, K.check w false hk, h1, MapKept.run_setObj_map _ hb, Result.andThen, setBlock]
    · intro x hx
      simp only [Array.toList_push, List.mem_append, List.mem_singleton] at hx
      rcases hx with hx | rfl
      · have := hi.young x hx; omega
      · simp
    · simp only [Array.toList_push, List.map_append, List.map_cons, List.map_nil, List.nodup_append]
      refine ⟨hi.stamps, by simp, fun x hx y hy => ?_⟩
      obtain ⟨e', he', rfl⟩ := List.mem_map.1 hx
      have := hi.young e' he'
      simp at hy
      omega
    · intro x hx
      simp only [Array.toList_push, List.mem_append, List.mem_singleton] at hx
      rcases hx with hx | rfl
      · exact hi.keyed x hx
      · exact ⟨l, hk⟩
    · simp only [Array.toList_push, List.map_append, List.map_cons, List.map_nil, List.nodup_append]
      refine ⟨hi.apart, by simp, fun x hx y hy => ?_⟩
      obtain ⟨e', he', rfl⟩ := List.mem_map.1 hx
      simp at hy
      subst hy
      exact hm _ (hi.perm.mem_iff.1 (List.mem_map.2 ⟨e', he', rfl⟩))
    · simp only [entL, Array.toList_push, List.map_append, List.map_cons, List.map_nil]
      exact (List.perm_append_singleton _ _).trans (hi.perm.cons _)
  · exact absurd rfl (hm _ h4)

theorem set_perm' {α : Type} : ∀ (l : List α) (j : Nat) (x y : α), l[j]? = some x → ∀ r, l.Perm (x :: r) → (l.set j y).Perm (y :: r) := by
  intro l j x y hx r hp
  have hj : j < l.length := (List.getElem?_eq_some_iff.1 hx).1
  have e1 : l = l.take j ++ x :: l.drop (j + 1) := by
    have := List.take_append_drop j l
    rw [List.drop_eq_getElem_cons hj] at this
    have hx' : l[j] = x := by simpa [List.getElem?_eq_getElem hj] using hx
    rw [hx'] at this
    exact this.symm
  have e2 : l.set j y = l.take j ++ y :: l.drop (j + 1) := List.set_eq_take_append_cons_drop .. |>.trans (by simp [hj])
  rw [e2]
  have : (l.take j ++ l.drop (j + 1)).Perm r := by
    have h1 : (x :: (l.take j ++ l.drop (j + 1))).Perm (x :: r) := (List.perm_middle.symm.trans (by rw [← e1])).trans hp
    exact (List.perm_cons x).1 h1
  exact List.perm_middle.trans (this.cons y)

theorem MapAt.store_old (K : Keyed P kt) (ht : P.underlying t = some (.map kt e)) (h : MapAt P kt w b L) {k v0 : Value} {l : Lit} (hk : keyOf P kt k = some l) (hp : L.Perm ((k, v0) :: L0)) (v : Value) :
    ∃ o, (Instr.mapUpdate t (.map (some b)) k v).run P w = .ok () (setBlock w b o) ∧ MapAt P kt (setBlock w b o) b ((k, v) :: L0) := by
  have hlt := h.lt
  have hn := h.nodup
  obtain ⟨es, clk, hb, hi⟩ := h
  have hmem : (k, v0) ∈ L := hp.mem_iff.2 (by simp)
  rcases hi.find K w hk with ⟨_, h2⟩ | ⟨j, e0, h1, h2, h3, h4⟩
  · exact absurd rfl (h2 _ hmem)
  · have hv0 : v0 = e0.val := uniq_val hn hmem h4
    have hj : j < es.size := by have := (List.getElem?_eq_some_iff.1 h2).1; simpa using this
    have hesj : es[j]? = some e0 := by rw [← h2]; simp
    have hml : (es.modify j fun e => { e with key := k, val := v }).toList = es.toList.set j { e0 with key := k, val := v } := by
      have he : es[j] = e0 := by simpa [Array.getElem?_eq_getElem hj] using hesj
      apply List.ext_getElem?
      intro i
      by_cases hij : j = i
      · subst hij
        simp [Array.getElem?_modify, hj, he]
      · simp [Array.getElem?_modify, List.getElem?_set, hij]
    have hset : ∀ {β : Type} (f : MapEntry → β), f { e0 with key := k, val := v } = f e0 → ((es.toList.set j { e0 with key := k, val := v }).map f) = es.toList.map f := by
      intro β f hf
      rw [List.map_set, hf]
      apply List.ext_getElem?
      intro i
      by_cases hij : j = i
      · subst hij
        have he : es[j] = e0 := by simpa [Array.getElem?_eq_getElem hj] using hesj
        simp [List.getElem?_set, hj, he]
      · simp [List.getElem?_set, hij]
    refine ⟨.map (es.modify j fun e => { e with key := k, val := v }) clk, ?_, _, _, setBlock_at w _ hlt, ?_, ?_, ?_, ?_, ?_⟩
    · simp [Instr.mapUpdate, run_underlying ht, MapKept.run_getObj_map hb, K.check w false hk, h1, hesj, h3, K.stays w hk, MapKept.run_setObj_map _ hb, Result.andThen, setBlock]
    · intro x hx
      rw [hml] at hx
      rcases List.mem_or_eq_of_mem_set hx with hx | rfl
      · exact hi.young x hx
      · exact hi.young e0 (List.mem_of_getElem? h2)
    · rw [hml, hset (·.born) rfl]; exact hi.stamps
    · intro x hx
      rw [hml] at hx
      rcases List.mem_or_eq_of_mem_set hx with hx | rfl
      · exact hi.keyed x hx
      · exact ⟨l, hk⟩
    · rw [hml, hset (·.key) h3.symm]; exact hi.apart
    · unfold entL
      rw [hml, List.map_set]
      refine set_perm' _ j (k, v0) _ ?_ L0 (hi.perm.trans hp)
      simp [hesj, h3, hv0]

theorem eraseIdx_perm {α : Type} (l : List α) (j : Nat) (x : α) (hx : l[j]? = some x) : l.Perm (x :: l.eraseIdx j) := by
  have hj : j < l.length := (List.getElem?_eq_some_iff.1 hx).1
  have hx' : l[j] = x := by simpa [List.getElem?_eq_getElem hj] using hx
  rw [List.eraseIdx_eq_take_drop_succ]
  have := List.take_append_drop j l
  rw [List.drop_eq_getElem_cons hj, hx'] at this
  exact (List.Perm.of_eq this.symm).trans List.perm_middle

theorem MapIs.erase {es : Array MapEntry} {clk : Nat} (h : MapIs P kt es clk L) {j : Nat} {e0 : MapEntry} (hj : es.toList[j]? = some e0) (hp : L.Perm ((e0.key, e0.val) :: L0)) :
    MapIs P kt (es.eraseIdxIfInBounds j) clk L0 := by
  have hl : (es.eraseIdxIfInBounds j).toList = es.toList.eraseIdx j := by
    unfold Array.eraseIdxIfInBounds
    split
    · simp
    · rename_i hlt
      rw [List.eraseIdx_of_length_le (by simpa using hlt)]
  have sub : ∀ x ∈ es.toList.eraseIdx j, x ∈ es.toList := fun x hx => (List.eraseIdx_sublist _ _).subset hx
  refine ⟨?_, ?_, ?_, ?_, ?_⟩
  · intro x hx; rw [hl] at hx; exact h.young x (sub x hx)
  · rw [hl]; exact h.stamps.sublist ((List.eraseIdx_sublist _ _).map _)
  · intro x hx; rw [hl] at hx; exact h.keyed x (sub x hx)
  · rw [hl]; exact h.apart.sublist ((List.eraseIdx_sublist _ _).map _)
  · unfold entL
    rw [hl]
    have h1 := (eraseIdx_perm es.toList j e0 hj).map fun e => (e.key, e.val)
    exact (List.perm_cons _).1 (h1.symm.trans (h.perm.trans hp))

theorem MapAt.delete_hit (K : Keyed P kt) (ht : P.underlying t = some (.map kt e)) (h : MapAt P kt w b L) {k v0 : Value} {l : Lit} (hk : keyOf P kt k = some l) (hp : L.Perm ((k, v0) :: L0)) (kt' ty : TypeId) :
    ∃ o, (Builtin.delete_ #[t, kt'] ty #[.map (some b), k]).run P w = .ok (.tuple #[]) (setBlock w b o) ∧ MapAt P kt (setBlock w b o) b L0 := by
  have hlt := h.lt
  have hn := h.nodup
  obtain ⟨es, clk, hb, hi⟩ := h
  have hmem : (k, v0) ∈ L := hp.mem_iff.2 (by simp)
  rcases hi.find K w hk with ⟨_, h2⟩ | ⟨j, e0, h1, h2, h3, h4⟩
  · exact absurd rfl (h2 _ hmem)
  · have hv0 : v0 = e0.val := uniq_val hn hmem h4
    refine ⟨.map (es.eraseIdxIfInBounds j) clk, ?_, _, _, setBlock_at w _ hlt, hi.erase h2 (by rw [h3, ← hv0]; exact hp)⟩
    simp [Builtin.delete_, run_underlying ht, MapKept.run_getObj_map hb, K.check w _ hk, h1, MapKept.run_setObj_map _ hb, Result.andThen, setBlock]

theorem MapAt.delete_miss (K : Keyed P kt) (ht : P.underlying t = some (.map kt e)) (h : MapAt P kt w b L) {k : Value} {l : Lit} (hk : keyOf P kt k = some l) (hm : ∀ p ∈ L, p.1 ≠ k) (kt' ty : TypeId) :
    ∃ o, (Builtin.delete_ #[t, kt'] ty #[.map (some b), k]).run P w = .ok (.tuple #[]) (setBlock w b o) ∧ MapAt P kt (setBlock w b o) b L := by
  have hlt := h.lt
  obtain ⟨es, clk, hb, hi⟩ := h
  rcases hi.find K w hk with ⟨h1, _⟩ | ⟨j, e0, _, _, _, h4⟩
  · refine ⟨.map es clk, ?_, _, _, setBlock_at w _ hlt, hi⟩
    simp [Builtin.delete_, run_underlying ht, MapKept.run_getObj_map hb, K.check w _ hk, h1, MapKept.run_setObj_map _ hb, Result.andThen, setBlock]
  · exact absurd rfl (hm _ h4)

theorem MapAt.run_len (ht : P.underlying t = some (.map kt e)) (h : MapAt P kt w b L) (ty : TypeId) : (Builtin.len_ #[t] ty #[.map (some b)]).run P w = .ok (.int .i64 L.length) w := by
  obtain ⟨es, clk, hb, hs⟩ := h.size
  simp [Builtin.len_, run_underlying ht, MapKept.run_getObj_map hb, Result.andThen, goInt, hs]

/-! ### ranging -/

/-- Block r ranges over the map b: its entries are L, those still to come are todo. -/
def IterAt (P : Program) (kt : TypeId) (w : World) (r b : Nat) (L todo : List (Value × Value)) : Prop :=
  ∃ es clk since seen c0, w.heap[b]? = some (.map es clk) ∧ w.heap[r]? = some (.mapIter (some b) since seen c0) ∧ MapIs P kt es clk L ∧ (entL (leftOf es seen)).Perm todo ∧
    (∀ x ∈ es.toList, x.born < since) ∧ since ≤ c0 ∧ since ≤ clk

theorem IterAt.map {r : Nat} {todo : List (Value × Value)} (h : IterAt P kt w r b L todo) : MapAt P kt w b L := let ⟨es, clk, _, _, _, hb, _, hi, _⟩ := h; ⟨es, clk, hb, hi⟩
theorem IterAt.lt {r : Nat} {todo : List (Value × Value)} (h : IterAt P kt w r b L todo) : r < w.heap.size := let ⟨_, _, _, _, _, _, hr, _⟩ := h; lt_of_heap hr
theorem IterAt.ne {r : Nat} {todo : List (Value × Value)} (h : IterAt P kt w r b L todo) : r ≠ b := by
  obtain ⟨_, _, _, _, _, hb, hr, _⟩ := h
  rintro rfl
  rw [hb] at hr
  cases hr
theorem IterAt.keep {r : Nat} {todo : List (Value × Value)} (h : IterAt P kt w r b L todo) (e1 : w'.heap[b]? = w.heap[b]?) (e2 : w'.heap[r]? = w.heap[r]?) : IterAt P kt w' r b L todo := by
  obtain ⟨es, clk, since, seen, c0, hb, hr, rest⟩ := h
  exact ⟨es, clk, since, seen, c0, e1.trans hb, e2.trans hr, rest⟩
theorem IterAt.mod {S : Nat → Prop} {r : Nat} {todo : List (Value × Value)} (h : IterAt P kt w r b L todo) (hm : Mod S w w') (h1 : ¬ S b) (h2 : ¬ S r) : IterAt P kt w' r b L todo :=
  h.keep (hm.block b h.map.lt h1) (hm.block r h.lt h2)
theorem IterAt.perm {r : Nat} {todo todo' : List (Value × Value)} (h : IterAt P kt w r b L todo) (hL : L.Perm L') (ht : todo.Perm todo') : IterAt P kt w r b L' todo' := by
  obtain ⟨es, clk, since, seen, c0, hb, hr, hi, hl, rest⟩ := h
  exact ⟨es, clk, since, seen, c0, hb, hr, hi.perm' hL, hl.trans ht, rest⟩

theorem MapAt.run_range (ht : P.underlying t = some (.map kt e)) (h : MapAt P kt w b L) :
    ∃ o, (Instr.range t (.map (some b))).run P w = .ok (.pointer (some ⟨w.heap.size, 0, none⟩)) (w.alloc o) ∧ IterAt P kt (w.alloc o) w.heap.size b L L := by
  have hlt := h.lt
  obtain ⟨es, clk, hb, hi⟩ := h
  refine ⟨.mapIter (some b) clk #[] clk, ?_, es, clk, clk, #[], clk, (Below.heap_alloc w _ b hlt).trans hb, heap_alloc_new w _, hi, ?_, hi.young, Nat.le_refl _, Nat.le_refl _⟩
  · simp [Instr.range, run_underlying ht, MapKept.run_getObj_map hb, Result.andThen]
  · have : leftOf es #[] = es := by simp [leftOf]
    rw [this]
    exact hi.perm

theorem nodup_filter_push {l : List MapEntry} (hn : (l.map (·.born)).Nodup) (seen : Array Nat) (e : MapEntry) (he : e ∈ l.filter fun x => !seen.contains x.born) :
    (l.filter fun x => !seen.contains x.born).Perm (e :: l.filter fun x => !(seen.push e.born).contains x.born) := by
  induction l with
  | nil => simp at he
  | cons x r ih =>
    simp only [List.map_cons, List.nodup_cons] at hn
    by_cases hx : seen.contains x.born
    · have hx2 : (seen.push e.born).contains x.born = true := by
        simp only [Array.contains_iff_mem, Array.mem_push] at hx ⊢
        exact .inl hx
      simp only [List.filter_cons, hx, hx2, Bool.not_true, Bool.false_eq_true, if_false] at he ⊢
      exact ih hn.2 he
    · simp only [Bool.not_eq_true] at hx
      simp only [List.filter_cons, hx, Bool.not_false, if_true] at he ⊢
      rcases List.mem_cons.1 he with rfl | he
      · have h1 : (seen.push e.born).contains e.born = true := by simp
        simp only [h1, Bool.not_true, Bool.false_eq_true, if_false]
        refine List.Perm.cons _ (List.Perm.of_eq (List.filter_congr fun y hy => ?_))
        have hne : y.born ≠ e.born := fun h => hn.1 (List.mem_map.2 ⟨y, hy, h⟩)
        simp [Array.contains_push, hne]
      · have hne : x.born ≠ e.born := fun h => hn.1 (List.mem_map.2 ⟨e, (List.mem_filter.1 he).1, h.symm⟩)
        have h1 : (seen.push e.born).contains x.born = false := by simpa [Array.contains_push, hne] using hx
        simp only [h1, Bool.not_false, if_true]
        exact ((ih hn.2 he).cons x).trans (List.Perm.swap _ _ _)

theorem toList_leftOf (es : Array MapEntry) (seen : Array Nat) : (leftOf es seen).toList = es.toList.filter fun x => !seen.contains x.born := by simp [leftOf]

/-- the step: nothing is left, or an entry comes, whichever the tape says. -/
theorem IterAt.run_next {r : Nat} {todo : List (Value × Value)} (h : IterAt P kt w r b L todo) (ty : TypeId) :
    (todo = [] ∧ (Instr.next (.pointer (some ⟨r, 0, none⟩)) false ty).run P w = .ok (.tuple #[.bool false]) w) ∨
    ∃ k v todo' w', todo.Perm ((k, v) :: todo') ∧ (k, v) ∈ L ∧ (Instr.next (.pointer (some ⟨r, 0, none⟩)) false ty).run P w = .ok (.tuple #[.bool true, k, v]) w' ∧ IterAt P kt w' r b L todo' ∧
      Mod (· = r) w w' ∧ w'.heap.size = w.heap.size ∧ (Instr.entry (.pointer (some ⟨r, 0, none⟩))).run P w' = .ok (.tuple #[k, v]) w' := by
  have hne := h.ne
  have hlt := h.lt
  obtain ⟨es, clk, since, seen, c0, hb, hr, hi, hl, ho, hs, hsc⟩ := h
  rcases run_next_at (P := P) w ty r b since c0 seen es clk hr hb ho hs with ⟨h0, hrun⟩ | ⟨e, he, w1, hw1, hrun⟩
  · have : leftOf es seen = #[] := Array.eq_empty_of_size_eq_zero h0
    rw [this] at hl
    have : todo = [] := by simpa [entL] using hl.symm
    exact .inl ⟨this, hrun⟩
  · have hmem := mem_left he
    have hb1 : w1.heap = w.heap := by rcases hw1 with rfl | rfl <;> rfl
    have hr' : (setBlock w1 r (.mapIter (some b) since (seen.push e.born) clk)).heap[r]? = some (.mapIter (some b) since (seen.push e.born) clk) := setBlock_at w1 _ (by rw [hb1]; exact hlt)
    have hb' : (setBlock w1 r (.mapIter (some b) since (seen.push e.born) clk)).heap[b]? = some (.map es clk) := by rw [setBlock_other w1 _ hne, hb1]; exact hb
    have hmod : Mod (· = r) w w1 := by
      rcases hw1 with rfl | rfl
      · exact Mod.refl _ _
      · exact (Mod.refl _ _).drew
    refine .inr ⟨e.key, e.val, entL (leftOf es (seen.push e.born)), _, ?_, hi.perm.mem_iff.1 (List.mem_map.2 ⟨e, hmem.1, rfl⟩), hrun, ⟨es, clk, since, seen.push e.born, clk, hb', hr', hi, List.Perm.refl _, ho, hsc, hsc⟩, hmod.setBlock (fun _ => rfl) _, by rw [setBlock_size, hb1],
      run_entry_at _ r b since seen es clk e hr' hb' hmem.1 hi.stamps⟩
    refine hl.symm.trans ?_
    unfold entL
    rw [toList_leftOf, toList_leftOf]
    rw [toList_leftOf] at he
    exact (nodup_filter_push hi.stamps seen e he).map _
end
end Go.Proofs.Ytcdeknbbeghljaa
