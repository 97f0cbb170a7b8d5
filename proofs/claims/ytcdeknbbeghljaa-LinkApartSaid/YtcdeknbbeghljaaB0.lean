/- Words for memory, of this session's own: what a step may turn ('Mod'), blocks known whole ('Blk'), slices that read as lists ('Rd'), rows that are owned ('Own'). Nothing of the program. -/
import Derived.WalkKit
import Derived.Deep.QuietTactic
import Derived.BigQuiet
import Derived.Deep.Draws
import Derived.WalkSpells
import Derived.WalkLawsBesides
import Derived.Maps.OwnSet
import Derived.Maps.RangeWalk
import Derived.Maps.AppendAt
import Derived.Deep.AppendLies
namespace Go.Proofs.Ytcdeknbbeghljaa
open Go.RowKit
open Go.ChangeMaps (setBlock)

/-- a fact kept from the walk -/
theorem hid {p : Prop} (h : p) : Hid p := h

/-! ## what a step may turn -/

/-- Only blocks in S, and new ones, may have turned. -/
structure Mod (S : Nat → Prop) (w w' : World) : Prop where
  os : w'.os = w.os
  tape : w'.tape = w.tape
  output : w'.output = w.output
  size : w.heap.size ≤ w'.heap.size
  block : ∀ k, k < w.heap.size → ¬ S k → w'.heap[k]? = w.heap[k]?

section
variable {S T : Nat → Prop} {a w w' w'' : World}
theorem Mod.refl (S : Nat → Prop) (w : World) : Mod S w w := ⟨rfl, rfl, rfl, Nat.le_refl _, fun _ _ _ => rfl⟩
theorem Mod.trans (h : Mod S w w') (k : Mod T w' w'') (hT : ∀ b, b < w.heap.size → T b → S b) : Mod S w w'' :=
  ⟨k.os.trans h.os, k.tape.trans h.tape, k.output.trans h.output, Nat.le_trans h.size k.size,
    fun b hb hS => (k.block b (Nat.lt_of_lt_of_le hb h.size) (fun ht => hS (hT b hb ht))).trans (h.block b hb hS)⟩
theorem Mod.trans' (h : Mod S w w') (k : Mod S w' w'') : Mod S w w'' := h.trans k fun _ _ h => h
theorem Mod.mono (h : Mod S w w') (hS : ∀ b, b < w.heap.size → S b → T b) : Mod T w w' :=
  ⟨h.os, h.tape, h.output, h.size, fun b hb hT => h.block b hb (fun hs => hT (hS b hb hs))⟩
theorem Mod.drew (h : Mod S a w) : Mod S a w.drew := ⟨h.os, h.tape, h.output, h.size, h.block⟩
theorem Mod.drewN (h : Mod S a w) (n : Nat) : Mod S a (w.drewN n) := ⟨h.os, h.tape, h.output, h.size, h.block⟩
theorem Mod.alloc (h : Mod S a w) (o : Obj) : Mod S a (w.alloc o) :=
  ⟨h.os, h.tape, h.output, Nat.le_trans h.size (by simp), fun b hb hS => (Below.heap_alloc w o b (Nat.lt_of_lt_of_le hb h.size)).trans (h.block b hb hS)⟩
theorem Mod.setCell (h : Mod S a w) {p : Addr} (hp : p.block < a.heap.size → S p.block) (u : Value) : Mod S a (w.setCell p u) :=
  ⟨h.os, h.tape, h.output, by simpa [World.setCell] using h.size, fun b hb hS => (Below.heap_setCell w p u b (by rintro rfl; exact hS (hp hb))).trans (h.block b hb hS)⟩
theorem Mod.of_grownBy {row : Option Nat} (h : w.grownBy w' row) (hr : ∀ k, row = some k → k < w.heap.size → S k) : Mod S w w' :=
  ⟨h.os, h.tape, h.output, h.size, fun b hb hS => h.block b hb (fun e => hS (hr b e.symm hb))⟩
theorem Mod.of_below (h : Below w.heap.size w w') : Mod S w w' := ⟨h.os, h.tape, h.output, h.size, fun b hb _ => h.block b hb⟩
theorem Mod.below (h : Mod S w w') {B : Nat} (hB : B ≤ w.heap.size) (hS : ∀ b, b < B → ¬ S b) : Below B w w' :=
  ⟨h.os, h.tape, h.output, h.size, fun b hb => h.block b (Nat.lt_of_lt_of_le hb hB) (hS b hb)⟩
theorem Mod.cell (h : Mod S w w') {p : Addr} {v : Value} (hc : w.cell? p = some v) (hS : ¬ S p.block) : w'.cell? p = some v :=
  (World.cell?_of_block (h.block p.block (World.block_lt_of_cell? w p hc) hS)).trans hc
theorem Mod.setBlock (h : Mod S a w) {b : Nat} (hb : b < a.heap.size → S b) (o : Obj) : Mod S a (setBlock w b o) :=
  ⟨h.os, h.tape, h.output, by simpa [Go.ChangeMaps.setBlock] using h.size, fun k hk hS => by
    have hne : b ≠ k := by rintro rfl; exact hS (hb hk)
    rw [← h.block k hk hS]
    show (w.heap.setIfInBounds b o)[k]? = _
    rw [Array.getElem?_setIfInBounds_ne hne]⟩
end

/-! ## a block known whole -/
def Blk (w : World) (g : Nat) (t : TypeId) (cs : Array Value) : Prop := w.heap[g]? = some (.cells cs t (0, 0))

section
variable {w w' : World} {g : Nat} {t : TypeId} {cs : Array Value}
theorem lt_of_heap {o : Obj} (h : w.heap[g]? = some o) : g < w.heap.size := (Array.getElem?_eq_some_iff.1 h).1
theorem Blk.lt (h : Blk w g t cs) : g < w.heap.size := lt_of_heap h
theorem Blk.cell (h : Blk w g t cs) {i : Nat} {v : Value} (hv : cs[i]? = some v) : w.cell? ⟨g, i, none⟩ = some v := by
  unfold Blk at h
  simp [World.cell?, h, hv]
theorem Blk.frozen (h : Blk w g t cs) (i : Nat) : w.frozen? ⟨g, i, none⟩ = false := by
  unfold Blk at h
  simp [World.frozen?, h]
theorem Blk.new (w : World) (t : TypeId) (cs : Array Value) : Blk (w.alloc (.cells cs t)) w.heap.size t cs := heap_alloc_new w _
theorem Blk.drew (h : Blk w g t cs) : Blk w.drew g t cs := h
theorem Blk.drewN (h : Blk w g t cs) (n : Nat) : Blk (w.drewN n) g t cs := h
theorem Blk.alloc (h : Blk w g t cs) (o : Obj) : Blk (w.alloc o) g t cs := (Below.heap_alloc w o g h.lt).trans h
theorem Blk.set (h : Blk w g t cs) (i : Nat) (u : Value) : Blk (w.setCell ⟨g, i, none⟩ u) g t (cs.setIfInBounds i u) := by
  unfold Blk at h ⊢
  simp [World.setCell, Array.getElem?_modify, h]
theorem Blk.far (h : Blk w g t cs) {p : Addr} (hp : g ≠ p.block) (u : Value) : Blk (w.setCell p u) g t cs := (Below.heap_setCell w p u g hp).trans h
theorem Blk.mod {S : Nat → Prop} (h : Blk w g t cs) (hm : Mod S w w') (hg : ¬ S g) : Blk w' g t cs := (hm.block g h.lt hg).trans h
theorem Blk.of_eq (h : Blk w g t cs) (e : w'.heap[g]? = w.heap[g]?) : Blk w' g t cs := e.trans h
end

/-! ## a slice that reads as a list of cells -/

/-- The slice value v holds the cells xs; their block is one of S. -/
def Rd (S : Nat → Prop) (w : World) (v : Value) (xs : List Value) : Prop :=
  ∃ A c, v = .slice A xs.length c ∧ xs.length ≤ c ∧ c ≤ maxLen ∧ (xs ≠ [] → ∃ b off, A = some ⟨b, off, none⟩ ∧ S b ∧ ∀ k u, xs[k]? = some u → w.cell? ⟨b, off + k, none⟩ = some u)

section
variable {S T : Nat → Prop} {w w' : World} {v : Value} {xs : List Value}
theorem Rd.nil (S : Nat → Prop) (w : World) : Rd S w (.slice none 0 0) [] := ⟨none, 0, rfl, Nat.le_refl _, by simp [maxLen], fun h => absurd rfl h⟩
theorem Rd.mono (h : Rd S w v xs) (hS : ∀ b, b < w.heap.size → S b → T b) : Rd T w v xs := by
  obtain ⟨A, c, hv, hc, hm, hA⟩ := h
  refine ⟨A, c, hv, hc, hm, fun hx => ?_⟩
  obtain ⟨b, off, ha, hs, hcell⟩ := hA hx
  refine ⟨b, off, ha, hS b ?_ hs, hcell⟩
  cases xs with
  | nil => exact absurd rfl hx
  | cons x r => exact World.block_lt_of_cell? w _ (hcell 0 x rfl)
theorem Rd.keep (h : Rd S w v xs) (hk : ∀ b, S b → b < w.heap.size → w'.heap[b]? = w.heap[b]?) : Rd S w' v xs := by
  obtain ⟨A, c, hv, hc, hm, hA⟩ := h
  refine ⟨A, c, hv, hc, hm, fun hx => ?_⟩
  obtain ⟨b, off, ha, hs, hcell⟩ := hA hx
  exact ⟨b, off, ha, hs, fun k u hu => (World.cell?_of_block (a := ⟨b, off + k, none⟩) (hk b hs (World.block_lt_of_cell? w _ (hcell k u hu)))).trans (hcell k u hu)⟩
theorem Rd.take {A : Option Addr} {n c : Nat} (h : Rd S w (.slice A n c) xs) {k : Nat} (hk : k ≤ n) : Rd S w (.slice A k c) (xs.take k) := by
  obtain ⟨A', c', hv, hc, hm, hA⟩ := h
  injection hv with e1 e2 e3
  subst e1 e3
  have hl : (xs.take k).length = k := by rw [List.length_take]; omega
  refine ⟨A, c, by rw [hl], by omega, hm, fun hx => ?_⟩
  obtain ⟨b, off, ha, hs, hcell⟩ := hA (by rintro rfl; simp at hx)
  refine ⟨b, off, ha, hs, fun j u hu => hcell j u ?_⟩
  rw [List.getElem?_take] at hu
  split at hu
  · exact hu
  · cases hu
theorem Rd.drop {A : Option Addr} {n c : Nat} (h : Rd S w (.slice A n c) xs) {k : Nat} (hk : k ≤ n) : Rd S w (.slice (if c = k then A else A.map (·.add k)) (n - k) (c - k)) (xs.drop k) := by
  obtain ⟨A', c', hv, hc, hm, hA⟩ := h
  injection hv with e1 e2 e3
  subst e1 e3
  have hl : (xs.drop k).length = n - k := by rw [List.length_drop]; omega
  refine ⟨_, c - k, by rw [hl], by omega, by omega, fun hx => ?_⟩
  have hkl : k < xs.length := by
    rcases Nat.lt_or_ge k xs.length with h | h
    · exact h
    · exact absurd (List.drop_eq_nil_of_le h) hx
  obtain ⟨b, off, ha, hs, hcell⟩ := hA (by rintro rfl; simp at hx)
  subst ha
  rw [if_neg (by omega)]
  refine ⟨b, off + k, ?_, hs, fun j u hu => ?_⟩
  · simp only [Option.map_some, Addr.add]
    split
    · rename_i h0; simp [h0]
    · rfl
  · rw [Nat.add_assoc]
    exact hcell (k + j) u (by rw [← hu, List.getElem?_drop])
theorem Rd.mod (h : Rd S w v xs) (hm : Mod T w w') (hd : ∀ b, S b → ¬ T b) : Rd S w' v xs := h.keep fun b hs hb => hm.block b hb (hd b hs)
theorem Rd.drewN (h : Rd S w v xs) (n : Nat) : Rd S (w.drewN n) v xs := h
theorem Rd.drew (h : Rd S w v xs) : Rd S w.drew v xs := h
theorem Rd.alloc (h : Rd S w v xs) (o : Obj) : Rd S (w.alloc o) v xs := h.keep fun b _ hb => Below.heap_alloc w o b hb
theorem Rd.setCell (h : Rd S w v xs) {p : Addr} (hp : ¬ S p.block) (u : Value) : Rd S (w.setCell p u) v xs := h.keep fun b hs _ => Below.heap_setCell w p u b (by rintro rfl; exact hp hs)
end

/-! ## a row that is owned -/

/-- v is a slice of n elements that owns the cells xs (nil, or the head of a row of its own); F: its block. -/
def Own (e : TypeId) (size : Nat) (v : Value) (n : Nat) (xs : List Value) (w : World) (F : List Nat) : Prop := w.ownsRow 0 e size v n xs ∧ F = v.ownBlock.toList

section
variable {e : TypeId} {size n : Nat} {v : Value} {xs : List Value} {w w' : World} {F : List Nat}
theorem Own.keep (h : Own e size v n xs w F) (hk : ∀ b ∈ F, w'.heap[b]? = w.heap[b]?) : Own e size v n xs w' F := by
  obtain ⟨⟨h1, h2⟩, rfl⟩ := h
  refine ⟨⟨h1, ?_⟩, rfl⟩
  rcases h2 with h2 | ⟨g, cap, cur, rfl, hb, hg, hr⟩
  · exact .inl h2
  · exact .inr ⟨g, cap, cur, rfl, hb, (hk g (by simp [Value.ownBlock])).trans hg, hr⟩
theorem Own.lt (h : Own e size v n xs w F) : ∀ b ∈ F, b < w.heap.size := by
  obtain ⟨h, rfl⟩ := h
  intro b hb
  exact (h.lt b (by simpa using hb)).2
theorem Own.nodup (h : Own e size v n xs w F) : F.Nodup := by
  obtain ⟨_, rfl⟩ := h
  cases v.ownBlock <;> simp
theorem Own.nil (e size) (w : World) : Own e size (.slice none 0 0) 0 [] w [] := ⟨World.ownsRow_nil w 0 e size, rfl⟩
theorem Own.made (e : TypeId) (w : World) : Own e 1 (.slice (some ⟨w.heap.size, 0, none⟩) 0 0) 0 [] (w.alloc (.cells #[] e)) [w.heap.size] :=
  ⟨World.ownsRow_made w #[] 0 (Nat.zero_le _) (Nat.zero_le _) (by simp), rfl⟩
theorem Own.rd (h : Own e 1 v n xs w F) : Rd (· ∈ F) w v xs := by
  obtain ⟨⟨h1, h2⟩, rfl⟩ := h
  have hl : xs.length = n := by simpa using h1
  rcases h2 with ⟨rfl, rfl⟩ | ⟨g, cap, cur, rfl, hb, hg, hnc, hcm, hcs, ht⟩
  · have : xs = [] := List.eq_nil_of_length_eq_zero hl
    subst this
    exact Rd.nil _ _
  · refine ⟨_, cap, by rw [hl], by omega, hcm, fun _ => ⟨g, 0, rfl, by simp [Value.ownBlock], fun k u hu => ?_⟩⟩
    have hk : k < xs.length := (List.getElem?_eq_some_iff.1 hu).1
    simp only [World.cell?, hg, Nat.zero_add, Option.isSome_none, Bool.false_eq_true, if_false]
    rw [← ht, List.getElem?_take] at hu
    split at hu
    · simpa using hu
    · cases hu
theorem Own.fits (h : Own e size v n xs w F) : n ≤ maxLen := by
  obtain ⟨⟨h1, h2⟩, rfl⟩ := h
  rcases h2 with ⟨rfl, rfl⟩ | ⟨g, cap, cur, rfl, hb, hg, hnc, hcm, hcs, ht⟩
  · simp
  · omega
theorem Own.form (h : Own e size v n xs w F) : ∃ A c, v = .slice A n c := by
  obtain ⟨⟨h1, h2⟩, rfl⟩ := h
  rcases h2 with ⟨rfl, rfl⟩ | ⟨g, cap, cur, rfl, hb, hg, hnc, hcm, hcs, ht⟩
  · exact ⟨_, _, rfl⟩
  · exact ⟨_, _, rfl⟩
theorem Own.mod {T : Nat → Prop} (h : Own e size v n xs w F) (hm : Mod T w w') (hd : ∀ b ∈ F, ¬ T b) : Own e size v n xs w' F := h.keep fun b hb => hm.block b (h.lt b hb) (hd b hb)
end

/-- WHAT A STEP MAKES OF A FOOTPRINT. -/
structure Upd (w w' : World) (F F' : List Nat) : Prop where
  mod : Mod (· ∈ F) w w'
  nodup : F'.Nodup
  sub : ∀ b ∈ F', b ∈ F ∨ w.heap.size ≤ b
section
variable {w w1 w2 : World} {F F1 F2 : List Nat}
theorem Upd.refl (w : World) (h : F.Nodup) : Upd w w F F := ⟨Mod.refl _ _, h, fun _ h => .inl h⟩
theorem Upd.new {w1 : World} {F1 : List Nat} (h : Mod (fun _ => False) w w1) (k : Upd w1 w2 F1 F2) (hF : ∀ b ∈ F1, w.heap.size ≤ b) : Upd w w2 [] F2 :=
  ⟨(h.trans k.mod (fun b hb h1 => absurd (hF b h1) (by omega))).mono (fun _ _ h => h.elim), k.nodup, fun b hb => by
    rcases k.sub b hb with h1 | h1
    · exact .inr (hF b h1)
    · exact .inr (Nat.le_trans h.size h1)⟩
theorem Upd.trans (h : Upd w w1 F F1) (k : Upd w1 w2 F1 F2) : Upd w w2 F F2 :=
  ⟨h.mod.trans k.mod (fun b hb h1 => (h.sub b h1).resolve_right (by omega)), k.nodup, fun b hb => by
    rcases k.sub b hb with h1 | h1
    · exact h.sub b h1
    · exact .inr (Nat.le_trans h.mod.size h1)⟩
/-- another footprint, apart from the first, stays, and stays apart. -/
theorem Upd.other (h : Upd w w1 F F1) {G : List Nat} (hd : ∀ b ∈ G, b ∉ F) (hl : ∀ b ∈ G, b < w.heap.size) : (∀ b ∈ G, w1.heap[b]? = w.heap[b]?) ∧ (∀ b ∈ G, b ∉ F1) :=
  ⟨fun b hb => h.mod.block b (hl b hb) (hd b hb), fun b hb h1 => by
    rcases h.sub b h1 with h2 | h2
    · exact hd b hb h2
    · have := hl b hb; omega⟩
end

/-! ## append -/
section
variable {P : Program} (w : World)

theorem run_append_nilsrc (base : Nat) (t ty e : TypeId) (i : TypeInfo) (size : Nat) (ht : P.underlying t = some (.slice e)) (hi : P.info? e = some i)
    (v : Value) (n : Nat) (xs : List Value) (hown : w.ownsRow base e size v n xs) (A : Option Addr) (c : Nat) (hA : A = none) : (Builtin.append_ #[t, t] ty #[v, .slice A 0 c]).run P w = .ok v w := by
  subst hA
  rcases hown.2 with ⟨rfl, rfl⟩ | ⟨g, cap, cur, rfl, _, _, hnc, _⟩
  · simp [Builtin.append_, run_underlying ht, sizeOf, typeInfo, hi, Builtin.lenOf, Builtin.firstCells]
  · simp [Builtin.append_, run_underlying ht, sizeOf, typeInfo, hi, Builtin.lenOf, Builtin.firstCells, hnc, storeCells]

/-- append onto a row that is owned, of whatever slice: one-cell elements. -/
theorem run_append_rd (t ty e : TypeId) (i : TypeInfo) (z : Value) (bytes : Nat) (ht : P.underlying t = some (.slice e)) (hi : P.info? e = some i) (hz : i.zero = some z)
    (hsize : i.size = 1) (hby : i.bytes = bytes) (hzs : z.cells.size = 1)
    (v : Value) (n : Nat) (xs : List Value) (F : List Nat) (hown : Own e 1 v n xs w F)
    (S : Nat → Prop) (u : Value) (news : List Value) (hr : Rd S w u news) (h1 : ∀ x ∈ news, x.oneCell' = true)
    (hbytes : (n + news.length) * bytes ≤ 140737488355328) (h63 : n + news.length ≤ maxLen) :
    ∃ v' w' F', (Builtin.append_ #[t, t] ty #[v, u]).run P w = .ok v' w' ∧ Own e 1 v' (n + news.length) (xs ++ news) w' F' ∧ Upd w w' F F' := by
  obtain ⟨A, c, rfl, hc, hm, hA⟩ := hr
  obtain ⟨hrow, rfl⟩ := hown
  have fin : ∀ (v' : Value) (w' : World), w'.ownsRow 0 e 1 v' (n + news.length) (xs ++ news) → w.grownBy w' v.ownBlock → (v'.ownBlock = v.ownBlock ∨ v'.ownBlock = some w.heap.size) → Upd w w' v.ownBlock.toList v'.ownBlock.toList := by
    intro v' w' _ h3 h5
    refine ⟨Mod.of_grownBy h3 (fun k hk _ => by simpa using hk), by cases v'.ownBlock <;> simp, fun b hb => ?_⟩
    rcases h5 with h5 | h5
    · rw [h5] at hb; exact .inl hb
    · rw [h5] at hb; simp at hb; exact .inr (by omega)
  by_cases hn : news = []
  · subst hn
    rcases A with _ | ad
    · exact ⟨v, w, v.ownBlock.toList, run_append_nilsrc w 0 t ty e i 1 ht hi v n xs hrow none c rfl, ⟨by simpa using hrow, rfl⟩, Upd.refl w (by cases v.ownBlock <;> simp)⟩
    · obtain ⟨v', w', hrun, h2, h3, _, h5⟩ := run_append_own_at (P := P) w 0 t ty e i z 1 bytes ht hi hz hsize hby hzs (by decide) v n xs hrow ad 0 c [] (by simp) (by simp) (by simp) (by simpa using h63) (by simpa using hbytes) (Nat.zero_le _)
      exact ⟨v', w', _, hrun, ⟨h2, rfl⟩, fin v' w' h2 h3 h5⟩
  · obtain ⟨b, off, rfl, _, hcell⟩ := hA hn
    obtain ⟨v', w', hrun, h2, h3, _, h5⟩ := run_append_own_at (P := P) w 0 t ty e i z 1 bytes ht hi hz hsize hby hzs (by decide) v n xs hrow ⟨b, off, none⟩ news.length c news (by simp)
      (fun j x hx => by
        have : (⟨b, off, none⟩ : Addr).add j = ⟨b, off + j, none⟩ := by unfold Addr.add; split <;> simp_all
        rw [this]; exact hcell j x hx) h1 h63 hbytes (Nat.zero_le _)
    exact ⟨v', w', _, hrun, ⟨h2, rfl⟩, fin v' w' h2 h3 h5⟩

theorem wp_append_rd {o : Oper} {a : Act} {K : Act → World → Prop} {Q : Exit → Act → World → Prop} (s x : Operand) (t : TypeId)
    (ho : o.op = .call { callee := .builtin .append, args := #[s, x], argTypes := #[t, t] })
    (e : TypeId) (i : TypeInfo) (z : Value) (bytes : Nat) (ht : P.underlying t = some (.slice e)) (hi : P.info? e = some i) (hz : i.zero = some z)
    (hsize : i.size = 1) (hby : i.bytes = bytes) (hzs : z.cells.size = 1)
    (v : Value) (n : Nat) (xs : List Value) (F : List Nat) (hs : a.eval s = v) (hown : Own e 1 v n xs w F)
    (S : Nat → Prop) (u : Value) (news : List Value) (hx : a.eval x = u) (hr : Rd S w u news) (h1 : ∀ x ∈ news, x.oneCell' = true)
    (hbytes : (n + news.length) * bytes ≤ 140737488355328) (h63 : n + news.length ≤ maxLen)
    (h : ∀ v' w' F', Own e 1 v' (n + news.length) (xs ++ news) w' F' → Upd w w' F F' → K (a.put o.dst v') w') : o.wp P a w K Q := by
  obtain ⟨v', w', F', hrun, h2, h3⟩ := run_append_rd (P := P) w t o.type e i z bytes ht hi hz hsize hby hzs v n xs F hown S u news hr h1 hbytes h63
  unfold Oper.wp execOp
  simp only [ho, resolve, invoke, builtin, Sem.run_bind, Sem.run_pure, Result.andThen_ok, List.map_toArray, List.map_cons, List.map_nil, hs, hx, hrun]
  exact h v' w' F' h2 h3

theorem wpList_append_rd {ops : Array Oper} {rest : List Oper} {o : Oper} {a : Act} {Q : Exit → Act → World → Prop} (hgd : o.guard = none) (s x : Operand) (t : TypeId)
    (ho : o.op = .call { callee := .builtin .append, args := #[s, x], argTypes := #[t, t] })
    (e : TypeId) (i : TypeInfo) (z : Value) (bytes : Nat) (ht : P.underlying t = some (.slice e)) (hi : P.info? e = some i) (hz : i.zero = some z)
    (hsize : i.size = 1) (hby : i.bytes = bytes) (hzs : z.cells.size = 1)
    (v : Value) (n : Nat) (xs : List Value) (F : List Nat) (hs : a.eval s = v) (hown : Own e 1 v n xs w F)
    (S : Nat → Prop) (u : Value) (news : List Value) (hx : a.eval x = u) (hr : Rd S w u news) (h1 : ∀ x ∈ news, x.oneCell' = true)
    (hbytes : (n + news.length) * bytes ≤ 140737488355328) (h63 : n + news.length ≤ maxLen)
    (h : ∀ v' w' F', Own e 1 v' (n + news.length) (xs ++ news) w' F' → Upd w w' F F' → wpList P ops Q rest (a.put o.dst v') w') : wpList P ops Q (o :: rest) a w :=
  wpList_plain hgd fun _ hK => wp_append_rd w s x t ho e i z bytes ht hi hz hsize hby hzs v n xs F hs hown S u news hx hr h1 hbytes h63 fun v' w' F' h2 h3 => hK _ _ (h v' w' F' h2 h3)
end

/-! ## bytes -/
def bytesV (l : List UInt8) : List Value := l.map fun b => .int .u8 b.toNat
theorem bytesV_length (l : List UInt8) : (bytesV l).length = l.length := by simp [bytesV]
theorem bytesV_append (l m : List UInt8) : bytesV (l ++ m) = bytesV l ++ bytesV m := by simp [bytesV]
theorem bytesV_get (l : List UInt8) (k : Nat) : (bytesV l)[k]? = (l[k]?).map fun b => .int .u8 b.toNat := by simp [bytesV]
theorem bytesV_one (l : List UInt8) : ∀ x ∈ bytesV l, x.oneCell' = true := by
  intro x hx
  obtain ⟨_, _, rfl⟩ := List.mem_map.1 hx
  rfl
theorem bytesV_take (l : List UInt8) (k : Nat) : bytesV (l.take k) = (bytesV l).take k := by simp [bytesV, List.map_take]
theorem bytesV_drop (l : List UInt8) (k : Nat) : bytesV (l.drop k) = (bytesV l).drop k := by simp [bytesV, List.map_drop]


/-- string(b). -/
theorem run_bytes_string {P : Program} {w : World} {src e dst : TypeId} (hs : P.underlying src = some (.slice e)) (he : P.underlying e = some (.int .u8)) (hd : P.underlying dst = some .string) {S : Nat → Prop} {v : Value} {l : List UInt8} (h : Rd S w v (bytesV l)) :
    (convert src dst v).run P w = .ok (.string ⟨l.toArray⟩) w := by
  obtain ⟨A, c, rfl, hc, hm, hA⟩ := h
  rw [bytesV_length]
  cases l with
  | nil =>
    cases A with
    | none => exact run_convert_bytes_nil w src e hs he 0 c dst hd
    | some ad => simp [convert, run_underlying hs, run_underlying hd, run_underlying he, Conv.bytesToString, loadCells, loadCellsFrom]; rfl
  | cons y r =>
    obtain ⟨b, off, rfl, _, hcell⟩ := hA (by simp [bytesV])
    have := run_convert_bytes_arg (P := P) w src e hs he b off (y :: r).length c ((y :: r).map fun x => (x.toNat : Int)) (by simp) (fun i hi => by
      rw [hcell i (.int .u8 ((y :: r)[i]).toNat) (by simp only [bytesV_get]; rw [List.getElem?_eq_getElem hi]; rfl)]
      have : (((y :: r).map fun x => (x.toNat : Int)).getD i 0) = ((y :: r)[i].toNat : Int) := by
        rw [List.getD_eq_getElem?_getD, List.getElem?_map, List.getElem?_eq_getElem hi]; rfl
      rw [this]) dst hd
    rw [this]
    have e1 : strOfNums ((y :: r).map fun x => (x.toNat : Int)) = ⟨(y :: r).toArray⟩ := by
      unfold strOfNums
      congr 1
      rw [List.map_map]
      congr 1
      conv => rhs; rw [← List.map_id (y :: r)]
      refine List.map_congr_left fun x _ => ?_
      simp
    rw [e1]

/-- a new row, marked or not, reads as its cells. -/
theorem Rd.newRow (w : World) (e : TypeId) (xs : List Value) (fz : Nat × Nat) (hx : xs.length ≤ maxLen) : Rd (· = w.heap.size) (w.alloc (.cells xs.toArray e fz)) (.slice (some ⟨w.heap.size, 0, none⟩) xs.length xs.length) xs :=
  ⟨_, xs.length, rfl, Nat.le_refl _, hx, fun _ => ⟨w.heap.size, 0, rfl, rfl, fun k u hu => by
    have : (w.alloc (.cells xs.toArray e fz)).heap[w.heap.size]? = some (.cells xs.toArray e fz) := heap_alloc_new w _
    unfold World.cell?
    simp only [Nat.zero_add]
    rw [this]
    simpa using hu⟩⟩

end Go.Proofs.Ytcdeknbbeghljaa
