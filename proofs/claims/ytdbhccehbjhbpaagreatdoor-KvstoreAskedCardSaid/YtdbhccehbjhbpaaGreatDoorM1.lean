/- what a law holds in memory: slices, maps, rows (nothing of the program); openers of arguments. (Several texts in one file, by merge.py.) -/
import Derived.WalkKit
import Derived.Deep.QuietTactic
import Derived.BigQuiet
import Derived.Deep.Draws
import Derived.WalkSpells
import Derived.WalkLawsBesides
import Derived.Maps.OwnSet
import Derived.Maps.RangeWalk
import Derived.Maps.AppendAt
import Derived.Deep.AppendLies
import Derived.Maps.RangeRun
import Derived.Laws.CopyOwn
import Derived.OwnWalk
import Derived.Lib.AppendZeros
import Derived.ProofKit
import Derived.OpenShut
import Derived.Deep.Slices
import Derived.Test.YtdbhccehbjhbpaaGreatDoorChecked

/- Words for memory, of this session's own: what a step may turn ('Mod'), blocks known whole ('Blk'), slices that read as lists ('Rd'), rows that are owned ('Own'). Nothing of the program. -/
namespace Go.Proofs.YtdbhccehbjhbpaaGreatDoor
open Go.RowKit
open Go.ChangeMaps (setBlock)

/-- a fact kept from the walk -/
theorem hid {p : Prop} (h : p) : Hid p := h

/-! ## what a step may turn -/

/-- Only blocks in S, and new ones, may have turned. -/
structure Mod (S : Nat → Prop) (w w' : World) : Prop where
  os : w'.os = w.os
  tape : w'.tape = w.tape
  output : w'.output = w.output
  size : w.heap.size ≤ w'.heap.size
  block : ∀ k, k < w.heap.size → ¬ S k → w'.heap[k]? = w.heap[k]?

section
variable {S T : Nat → Prop} {a w w' w'' : World}
theorem Mod.refl (S : Nat → Prop) (w : World) : Mod S w w := ⟨rfl, rfl, rfl, Nat.le_refl _, fun _ _ _ => rfl⟩
theorem Mod.trans (h : Mod S w w') (k : Mod T w' w'') (hT : ∀ b, b < w.heap.size → T b → S b) : Mod S w w'' :=
  ⟨k.os.trans h.os, k.tape.trans h.tape, k.output.trans h.output, Nat.le_trans h.size k.size,
    fun b hb hS => (k.block b (Nat.lt_of_lt_of_le hb h.size) (fun ht => hS (hT b hb ht))).trans (h.block b hb hS)⟩
theorem Mod.trans' (h : Mod S w w') (k : Mod S w' w'') : Mod S w w'' := h.trans k fun _ _ h => h
theorem Mod.mono (h : Mod S w w') (hS : ∀ b, b < w.heap.size → S b → T b) : Mod T w w' :=
  ⟨h.os, h.tape, h.output, h.size, fun b hb hT => h.block b hb (fun hs => hT (hS b hb hs))⟩
theorem Mod.drew (h : Mod S a w) : Mod S a w.drew := ⟨h.os, h.tape, h.output, h.size, h.block⟩
theorem Mod.drewN (h : Mod S a w) (n : Nat) : Mod S a (w.drewN n) := ⟨h.os, h.tape, h.output, h.size, h.block⟩
theorem Mod.alloc (h : Mod S a w) (o : Obj) : Mod S a (w.alloc o) :=
  ⟨h.os, h.tape, h.output, Nat.le_trans h.size (by simp), fun b hb hS => (Below.heap_alloc w o b (Nat.lt_of_lt_of_le hb h.size)).trans (h.block b hb hS)⟩
theorem Mod.setCell (h : Mod S a w) {p : Addr} (hp : p.block < a.heap.size → S p.block) (u : Value) : Mod S a (w.setCell p u) :=
  ⟨h.os, h.tape, h.output, by simpa [World.setCell] using h.size, fun b hb hS => (Below.heap_setCell w p u b (by rintro rfl; exact hS (hp hb))).trans (h.block b hb hS)⟩
theorem Mod.of_grownBy {row : Option Nat} (h : w.grownBy w' row) (hr : ∀ k, row = some k → k < w.heap.size → S k) : Mod S w w' :=
  ⟨h.os, h.tape, h.output, h.size, fun b hb hS => h.block b hb (fun e => hS (hr b e.symm hb))⟩
theorem Mod.of_below (h : Below w.heap.size w w') : Mod S w w' := ⟨h.os, h.tape, h.output, h.size, fun b hb _ => h.block b hb⟩
theorem Mod.below (h : Mod S w w') {B : Nat} (hB : B ≤ w.heap.size) (hS : ∀ b, b < B → ¬ S b) : Below B w w' :=
  ⟨h.os, h.tape, h.output, h.size, fun b hb => h.block b (Nat.lt_of_lt_of_le hb hB) (hS b hb)⟩
theorem Mod.cell (h : Mod S w w') {p : Addr} {v : Value} (hc : w.cell? p = some v) (hS : ¬ S p.block) : w'.cell? p = some v :=
  (World.cell?_of_block (h.block p.block (World.block_lt_of_cell? w p hc) hS)).trans hc
theorem Mod.setBlock (h : Mod S a w) {b : Nat} (hb : b < a.heap.size → S b) (o : Obj) : Mod S a (setBlock w b o) :=
  ⟨h.os, h.tape, h.output, by simpa [Go.ChangeMaps.setBlock] using h.size, fun k hk hS => by
    have hne : b ≠ k := by rintro rfl; exact hS (hb hk)
    rw [← h.block k hk hS]
    show (w.heap.setIfInBounds b o)[k]? = _
    rw [Array.getElem?_setIfInBounds_ne hne]⟩
end

/-! ## a block known whole -/
def Blk (w : World) (g : Nat) (t : TypeId) (cs : Array Value) : Prop := w.heap[g]? = some (.cells cs t (0, 0))

section
variable {w w' : World} {g : Nat} {t : TypeId} {cs : Array Value}
theorem lt_of_heap {o : Obj} (h : w.heap[g]? = some o) : g < w.heap.size := (Array.getElem?_eq_some_iff.1 h).1
theorem Blk.lt (h : Blk w g t cs) : g < w.heap.size := lt_of_heap h
theorem Blk.cell (h : Blk w g t cs) {i : Nat} {v : Value} (hv : cs[i]? = some v) : w.cell? ⟨g, i, none⟩ = some v := by
  unfold Blk at h
  simp [World.cell?, h, hv]
theorem Blk.frozen (h : Blk w g t cs) (i : Nat) : w.frozen? ⟨g, i, none⟩ = false := by
  unfold Blk at h
  simp [World.frozen?, h]
theorem Blk.new (w : World) (t : TypeId) (cs : Array Value) : Blk (w.alloc (.cells cs t)) w.heap.size t cs := heap_alloc_new w _
theorem Blk.drew (h : Blk w g t cs) : Blk w.drew g t cs := h
theorem Blk.drewN (h : Blk w g t cs) (n : Nat) : Blk (w.drewN n) g t cs := h
theorem Blk.alloc (h : Blk w g t cs) (o : Obj) : Blk (w.alloc o) g t cs := (Below.heap_alloc w o g h.lt).trans h
theorem Blk.set (h : Blk w g t cs) (i : Nat) (u : Value) : Blk (w.setCell ⟨g, i, none⟩ u) g t (cs.setIfInBounds i u) := by
  unfold Blk at h ⊢
  simp [World.setCell, Array.getElem?_modify, h]
theorem Blk.far (h : Blk w g t cs) {p : Addr} (hp : g ≠ p.block) (u : Value) : Blk (w.setCell p u) g t cs := (Below.heap_setCell w p u g hp).trans h
theorem Blk.mod {S : Nat → Prop} (h : Blk w g t cs) (hm : Mod S w w') (hg : ¬ S g) : Blk w' g t cs := (hm.block g h.lt hg).trans h
theorem Blk.of_eq (h : Blk w g t cs) (e : w'.heap[g]? = w.heap[g]?) : Blk w' g t cs := e.trans h
end

/-! ## a slice that reads as a list of cells -/

/-- The slice value v holds the cells xs; their block is one of S. -/
def Rd (S : Nat → Prop) (w : World) (v : Value) (xs : List Value) : Prop :=
  ∃ A c, v = .slice A xs.length c ∧ xs.length ≤ c ∧ c ≤ maxLen ∧ (xs ≠ [] → ∃ b off, A = some ⟨b, off, none⟩ ∧ S b ∧ ∀ k u, xs[k]? = some u → w.cell? ⟨b, off + k, none⟩ = some u)

section
variable {S T : Nat → Prop} {w w' : World} {v : Value} {xs : List Value}
theorem Rd.nil (S : Nat → Prop) (w : World) : Rd S w (.slice none 0 0) [] := ⟨none, 0, rfl, Nat.le_refl _, by simp [maxLen], fun h => absurd rfl h⟩
theorem Rd.mono (h : Rd S w v xs) (hS : ∀ b, b < w.heap.size → S b → T b) : Rd T w v xs := by
  obtain ⟨A, c, hv, hc, hm, hA⟩ := h
  refine ⟨A, c, hv, hc, hm, fun hx => ?_⟩
  obtain ⟨b, off, ha, hs, hcell⟩ := hA hx
  refine ⟨b, off, ha, hS b ?_ hs, hcell⟩
  cases xs with
  | nil => exact absurd rfl hx
  | cons x r => exact World.block_lt_of_cell? w _ (hcell 0 x rfl)
theorem Rd.keep (h : Rd S w v xs) (hk : ∀ b, S b → b < w.heap.size → w'.heap[b]? = w.heap[b]?) : Rd S w' v xs := by
  obtain ⟨A, c, hv, hc, hm, hA⟩ := h
  refine ⟨A, c, hv, hc, hm, fun hx => ?_⟩
  obtain ⟨b, off, ha, hs, hcell⟩ := hA hx
  exact ⟨b, off, ha, hs, fun k u hu => (World.cell?_of_block (a := ⟨b, off + k, none⟩) (hk b hs (World.block_lt_of_cell? w _ (hcell k u hu)))).trans (hcell k u hu)⟩
theorem Rd.take {A : Option Addr} {n c : Nat} (h : Rd S w (.slice A n c) xs) {k : Nat} (hk : k ≤ n) : Rd S w (.slice A k c) (xs.take k) := by
  obtain ⟨A', c', hv, hc, hm, hA⟩ := h
  injection hv with e1 e2 e3
  subst e1 e3
  have hl : (xs.take k).length = k := by rw [List.length_take]; omega
  refine ⟨A, c, by rw [hl], by omega, hm, fun hx => ?_⟩
  obtain ⟨b, off, ha, hs, hcell⟩ := hA (by rintro rfl; simp at hx)
  refine ⟨b, off, ha, hs, fun j u hu => hcell j u ?_⟩
  rw [List.getElem?_take] at hu
  split at hu
  · exact hu
  · cases hu
theorem Rd.drop {A : Option Addr} {n c : Nat} (h : Rd S w (.slice A n c) xs) {k : Nat} (hk : k ≤ n) : Rd S w (.slice (if c = k then A else A.map (·.add k)) (n - k) (c - k)) (xs.drop k) := by
  obtain ⟨A', c', hv, hc, hm, hA⟩ := h
  injection hv with e1 e2 e3
  subst e1 e3
  have hl : (xs.drop k).length = n - k := by rw [List.length_drop]; omega
  refine ⟨_, c - k, by rw [hl], by omega, by omega, fun hx => ?_⟩
  have hkl : k < xs.length := by
    rcases Nat.lt_or_ge k xs.length with h | h
    · exact h
    · exact absurd (List.drop_eq_nil_of_le h) hx
  obtain ⟨b, off, ha, hs, hcell⟩ := hA (by rintro rfl; simp at hx)
  subst ha
  rw [if_neg (by omega)]
  refine ⟨b, off + k, ?_, hs, fun j u hu => ?_⟩
  · simp only [Option.map_some, Addr.add]
    split
    · rename_i h0; simp [h0]
    · rfl
  · rw [Nat.add_assoc]
    exact hcell (k + j) u (by rw [← hu, List.getElem?_drop])
theorem Rd.mod (h : Rd S w v xs) (hm : Mod T w w') (hd : ∀ b, S b → ¬ T b) : Rd S w' v xs := h.keep fun b hs hb => hm.block b hb (hd b hs)
theorem Rd.drewN (h : Rd S w v xs) (n : Nat) : Rd S (w.drewN n) v xs := h
theorem Rd.drew (h : Rd S w v xs) : Rd S w.drew v xs := h
theorem Rd.alloc (h : Rd S w v xs) (o : Obj) : Rd S (w.alloc o) v xs := h.keep fun b _ hb => Below.heap_alloc w o b hb
theorem Rd.setCell (h : Rd S w v xs) {p : Addr} (hp : ¬ S p.block) (u : Value) : Rd S (w.setCell p u) v xs := h.keep fun b hs _ => Below.heap_setCell w p u b (by rintro rfl; exact hp hs)
end

/-! ## a row that is owned -/

/-- v is a slice of n elements that owns the cells xs (nil, or the head of a row of its own); F: its block. -/
def Own (e : TypeId) (size : Nat) (v : Value) (n : Nat) (xs : List Value) (w : World) (F : List Nat) : Prop := w.ownsRow 0 e size v n xs ∧ F = v.ownBlock.toList

section
variable {e : TypeId} {size n : Nat} {v : Value} {xs : List Value} {w w' : World} {F : List Nat}
theorem Own.keep (h : Own e size v n xs w F) (hk : ∀ b ∈ F, w'.heap[b]? = w.heap[b]?) : Own e size v n xs w' F := by
  obtain ⟨⟨h1, h2⟩, rfl⟩ := h
  refine ⟨⟨h1, ?_⟩, rfl⟩
  rcases h2 with h2 | ⟨g, cap, cur, rfl, hb, hg, hr⟩
  · exact .inl h2
  · exact .inr ⟨g, cap, cur, rfl, hb, (hk g (by simp [Value.ownBlock])).trans hg, hr⟩
theorem Own.lt (h : Own e size v n xs w F) : ∀ b ∈ F, b < w.heap.size := by
  obtain ⟨h, rfl⟩ := h
  intro b hb
  exact (h.lt b (by simpa using hb)).2
theorem Own.nodup (h : Own e size v n xs w F) : F.Nodup := by
  obtain ⟨_, rfl⟩ := h
  cases v.ownBlock <;> simp
theorem Own.nil (e size) (w : World) : Own e size (.slice none 0 0) 0 [] w [] := ⟨World.ownsRow_nil w 0 e size, rfl⟩
theorem Own.made (e : TypeId) (w : World) : Own e 1 (.slice (some ⟨w.heap.size, 0, none⟩) 0 0) 0 [] (w.alloc (.cells #[] e)) [w.heap.size] :=
  ⟨World.ownsRow_made w #[] 0 (Nat.zero_le _) (Nat.zero_le _) (by simp), rfl⟩
theorem Own.rd (h : Own e 1 v n xs w F) : Rd (· ∈ F) w v xs := by
  obtain ⟨⟨h1, h2⟩, rfl⟩ := h
  have hl : xs.length = n := by simpa using h1
  rcases h2 with ⟨rfl, rfl⟩ | ⟨g, cap, cur, rfl, hb, hg, hnc, hcm, hcs, ht⟩
  · have : xs = [] := List.eq_nil_of_length_eq_zero hl
    subst this
    exact Rd.nil _ _
  · refine ⟨_, cap, by rw [hl], by omega, hcm, fun _ => ⟨g, 0, rfl, by simp [Value.ownBlock], fun k u hu => ?_⟩⟩
    have hk : k < xs.length := (List.getElem?_eq_some_iff.1 hu).1
    simp only [World.cell?, hg, Nat.zero_add, Option.isSome_none, Bool.false_eq_true, if_false]
    rw [← ht, List.getElem?_take] at hu
    split at hu
    · simpa using hu
    · cases hu
theorem Own.fits (h : Own e size v n xs w F) : n ≤ maxLen := by
  obtain ⟨⟨h1, h2⟩, rfl⟩ := h
  rcases h2 with ⟨rfl, rfl⟩ | ⟨g, cap, cur, rfl, hb, hg, hnc, hcm, hcs, ht⟩
  · simp
  · omega
theorem Own.form (h : Own e size v n xs w F) : ∃ A c, v = .slice A n c := by
  obtain ⟨⟨h1, h2⟩, rfl⟩ := h
  rcases h2 with ⟨rfl, rfl⟩ | ⟨g, cap, cur, rfl, hb, hg, hnc, hcm, hcs, ht⟩
  · exact ⟨_, _, rfl⟩
  · exact ⟨_, _, rfl⟩
theorem Own.mod {T : Nat → Prop} (h : Own e size v n xs w F) (hm : Mod T w w') (hd : ∀ b ∈ F, ¬ T b) : Own e size v n xs w' F := h.keep fun b hb => hm.block b (h.lt b hb) (hd b hb)
end

/-- WHAT A STEP MAKES OF A FOOTPRINT. -/
structure Upd (w w' : World) (F F' : List Nat) : Prop where
  mod : Mod (· ∈ F) w w'
  nodup : F'.Nodup
  sub : ∀ b ∈ F', b ∈ F ∨ w.heap.size ≤ b
section
variable {w w1 w2 : World} {F F1 F2 : List Nat}
theorem Upd.refl (w : World) (h : F.Nodup) : Upd w w F F := ⟨Mod.refl _ _, h, fun _ h => .inl h⟩
theorem Upd.new {w1 : World} {F1 : List Nat} (h : Mod (fun _ => False) w w1) (k : Upd w1 w2 F1 F2) (hF : ∀ b ∈ F1, w.heap.size ≤ b) : Upd w w2 [] F2 :=
  ⟨(h.trans k.mod (fun b hb h1 => absurd (hF b h1) (by omega))).mono (fun _ _ h => h.elim), k.nodup, fun b hb => by
    rcases k.sub b hb with h1 | h1
    · exact .inr (hF b h1)
    · exact .inr (Nat.le_trans h.size h1)⟩
theorem Upd.trans (h : Upd w w1 F F1) (k : Upd w1 w2 F1 F2) : Upd w w2 F F2 :=
  ⟨h.mod.trans k.mod (fun b hb h1 => (h.sub b h1).resolve_right (by omega)), k.nodup, fun b hb => by
    rcases k.sub b hb with h1 | h1
    · exact h.sub b h1
    · exact .inr (Nat.le_trans h.mod.size h1)⟩
/-- another footprint, apart from the first, stays, and stays apart. -/
theorem Upd.other (h : Upd w w1 F F1) {G : List Nat} (hd : ∀ b ∈ G, b ∉ F) (hl : ∀ b ∈ G, b < w.heap.size) : (∀ b ∈ G, w1.heap[b]? = w.heap[b]?) ∧ (∀ b ∈ G, b ∉ F1) :=
  ⟨fun b hb => h.mod.block b (hl b hb) (hd b hb), fun b hb h1 => by
    rcases h.sub b h1 with h2 | h2
    · exact hd b hb h2
    · have := hl b hb; omega⟩
end

/-! ## append -/
section
variable {P : Program} (w : World)

theorem run_append_nilsrc (base : Nat) (t ty e : TypeId) (i : TypeInfo) (size : Nat) (ht : P.underlying t = some (.slice e)) (hi : P.info? e = some i)
    (v : Value) (n : Nat) (xs : List Value) (hown : w.ownsRow base e size v n xs) (A : Option Addr) (c : Nat) (hA : A = none) : (Builtin.append_ #[t, t] ty #[v, .slice A 0 c]).run P w = .ok v w := by
  subst hA
  rcases hown.2 with ⟨rfl, rfl⟩ | ⟨g, cap, cur, rfl, _, _, hnc, _⟩
  · simp [Builtin.append_, run_underlying ht, sizeOf, typeInfo, hi, Builtin.lenOf, Builtin.firstCells]
  · simp [Builtin.append_, run_underlying ht, sizeOf, typeInfo, hi, Builtin.lenOf, Builtin.firstCells, hnc, storeCells]

/-- append onto a row that is owned, of whatever slice: one-cell elements. -/
theorem run_append_rd (t ty e : TypeId) (i : TypeInfo) (z : Value) (bytes : Nat) (ht : P.underlying t = some (.slice e)) (hi : P.info? e = some i) (hz : i.zero = some z)
    (hsize : i.size = 1) (hby : i.bytes = bytes) (hzs : z.cells.size = 1)
    (v : Value) (n : Nat) (xs : List Value) (F : List Nat) (hown : Own e 1 v n xs w F)
    (S : Nat → Prop) (u : Value) (news : List Value) (hr : Rd S w u news) (h1 : ∀ x ∈ news, x.oneCell' = true)
    (hbytes : (n + news.length) * bytes ≤ 140737488355328) (h63 : n + news.length ≤ maxLen) :
    ∃ v' w' F', (Builtin.append_ #[t, t] ty #[v, u]).run P w = .ok v' w' ∧ Own e 1 v' (n + news.length) (xs ++ news) w' F' ∧ Upd w w' F F' := by
  obtain ⟨A, c, rfl, hc, hm, hA⟩ := hr
  obtain ⟨hrow, rfl⟩ := hown
  have fin : ∀ (v' : Value) (w' : World), w'.ownsRow 0 e 1 v' (n + news.length) (xs ++ news) → w.grownBy w' v.ownBlock → (v'.ownBlock = v.ownBlock ∨ v'.ownBlock = some w.heap.size) → Upd w w' v.ownBlock.toList v'.ownBlock.toList := by
    intro v' w' _ h3 h5
    refine ⟨Mod.of_grownBy h3 (fun k hk _ => by simpa using hk), by cases v'.ownBlock <;> simp, fun b hb => ?_⟩
    rcases h5 with h5 | h5
    · rw [h5] at hb; exact .inl hb
    · rw [h5] at hb; simp at hb; exact .inr (by omega)
  by_cases hn : news = []
  · subst hn
    rcases A with _ | ad
    · exact ⟨v, w, v.ownBlock.toList, run_append_nilsrc w 0 t ty e i 1 ht hi v n xs hrow none c rfl, ⟨by simpa using hrow, rfl⟩, Upd.refl w (by cases v.ownBlock <;> simp)⟩
    · obtain ⟨v', w', hrun, h2, h3, _, h5⟩ := run_append_own_at (P := P) w 0 t ty e i z 1 bytes ht hi hz hsize hby hzs (by decide) v n xs hrow ad 0 c [] (by simp) (by simp) (by simp) (by simpa using h63) (by simpa using hbytes) (Nat.zero_le _)
      exact ⟨v', w', _, hrun, ⟨h2, rfl⟩, fin v' w' h2 h3 h5⟩
  · obtain ⟨b, off, rfl, _, hcell⟩ := hA hn
    obtain ⟨v', w', hrun, h2, h3, _, h5⟩ := run_append_own_at (P := P) w 0 t ty e i z 1 bytes ht hi hz hsize hby hzs (by decide) v n xs hrow ⟨b, off, none⟩ news.length c news (by simp)
      (fun j x hx => by
        have : (⟨b, off, none⟩ : Addr).add j = ⟨b, off + j, none⟩ := by unfold Addr.add; split <;> simp_all
        rw [this]; exact hcell j x hx) h1 h63 hbytes (Nat.zero_le _)
    exact ⟨v', w', _, hrun, ⟨h2, rfl⟩, fin v' w' h2 h3 h5⟩

theorem wp_append_rd {o : Oper} {a : Act} {K : Act → World → Prop} {Q : Exit → Act → World → Prop} (s x : Operand) (t : TypeId)
    (ho : o.op = .call { callee := .builtin .append, args := #[s, x], argTypes := #[t, t] })
    (e : TypeId) (i : TypeInfo) (z : Value) (bytes : Nat) (ht : P.underlying t = some (.slice e)) (hi : P.info? e = some i) (hz : i.zero = some z)
    (hsize : i.size = 1) (hby : i.bytes = bytes) (hzs : z.cells.size = 1)
    (v : Value) (n : Nat) (xs : List Value) (F : List Nat) (hs : a.eval s = v) (hown : Own e 1 v n xs w F)
    (S : Nat → Prop) (u : Value) (news : List Value) (hx : a.eval x = u) (hr : Rd S w u news) (h1 : ∀ x ∈ news, x.oneCell' = true)
    (hbytes : (n + news.length) * bytes ≤ 140737488355328) (h63 : n + news.length ≤ maxLen)
    (h : ∀ v' w' F', Own e 1 v' (n + news.length) (xs ++ news) w' F' → Upd w w' F F' → K (a.put o.dst v') w') : o.wp P a w K Q := by
  obtain ⟨v', w', F', hrun, h2, h3⟩ := run_append_rd (P := P) w t o.type e i z bytes ht hi hz hsize hby hzs v n xs F hown S u news hr h1 hbytes h63
  unfold Oper.wp execOp
  simp only [ho, resolve, invoke, builtin, Sem.run_bind, Sem.run_pure, Result.andThen_ok, List.map_toArray, List.map_cons, List.map_nil, hs, hx, hrun]
  exact h v' w' F' h2 h3

theorem wpList_append_rd {ops : Array Oper} {rest : List Oper} {o : Oper} {a : Act} {Q : Exit → Act → World → Prop} (hgd : o.guard = none) (s x : Operand) (t : TypeId)
    (ho : o.op = .call { callee := .builtin .append, args := #[s, x], argTypes := #[t, t] })
    (e : TypeId) (i : TypeInfo) (z : Value) (bytes : Nat) (ht : P.underlying t = some (.slice e)) (hi : P.info? e = some i) (hz : i.zero = some z)
    (hsize : i.size = 1) (hby : i.bytes = bytes) (hzs : z.cells.size = 1)
    (v : Value) (n : Nat) (xs : List Value) (F : List Nat) (hs : a.eval s = v) (hown : Own e 1 v n xs w F)
    (S : Nat → Prop) (u : Value) (news : List Value) (hx : a.eval x = u) (hr : Rd S w u news) (h1 : ∀ x ∈ news, x.oneCell' = true)
    (hbytes : (n + news.length) * bytes ≤ 140737488355328) (h63 : n + news.length ≤ maxLen)
    (h : ∀ v' w' F', Own e 1 v' (n + news.length) (xs ++ news) w' F' → Upd w w' F F' → wpList P ops Q rest (a.put o.dst v') w') : wpList P ops Q (o :: rest) a w :=
  wpList_plain hgd fun _ hK => wp_append_rd w s x t ho e i z bytes ht hi hz hsize hby hzs v n xs F hs hown S u news hx hr h1 hbytes h63 fun v' w' F' h2 h3 => hK _ _ (h v' w' F' h2 h3)
end

/-! ## bytes -/
def bytesV (l : List UInt8) : List Value := l.map fun b => .int .u8 b.toNat
theorem bytesV_length (l : List UInt8) : (bytesV l).length = l.length := by simp [bytesV]
theorem bytesV_append (l m : List UInt8) : bytesV (l ++ m) = bytesV l ++ bytesV m := by simp [bytesV]
theorem bytesV_get (l : List UInt8) (k : Nat) : (bytesV l)[k]? = (l[k]?).map fun b => .int .u8 b.toNat := by simp [bytesV]
theorem bytesV_one (l : List UInt8) : ∀ x ∈ bytesV l, x.oneCell' = true := by
  intro x hx
  obtain ⟨_, _, rfl⟩ := List.mem_map.1 hx
  rfl
theorem bytesV_take (l : List UInt8) (k : Nat) : bytesV (l.take k) = (bytesV l).take k := by simp [bytesV, List.map_take]
theorem bytesV_drop (l : List UInt8) (k : Nat) : bytesV (l.drop k) = (bytesV l).drop k := by simp [bytesV, List.map_drop]


/-- string(b). -/
theorem run_bytes_string {P : Program} {w : World} {src e dst : TypeId} (hs : P.underlying src = some (.slice e)) (he : P.underlying e = some (.int .u8)) (hd : P.underlying dst = some .string) {S : Nat → Prop} {v : Value} {l : List UInt8} (h : Rd S w v (bytesV l)) :
    (convert src dst v).run P w = .ok (.string ⟨l.toArray⟩) w := by
  obtain ⟨A, c, rfl, hc, hm, hA⟩ := h
  rw [bytesV_length]
  cases l with
  | nil =>
    cases A with
    | none => exact run_convert_bytes_nil w src e hs he 0 c dst hd
    | some ad => simp [convert, run_underlying hs, run_underlying hd, run_underlying he, Conv.bytesToString, loadCells, loadCellsFrom]; rfl
  | cons y r =>
    obtain ⟨b, off, rfl, _, hcell⟩ := hA (by simp [bytesV])
    have := run_convert_bytes_arg (P := P) w src e hs he b off (y :: r).length c ((y :: r).map fun x => (x.toNat : Int)) (by simp) (fun i hi => by
      rw [hcell i (.int .u8 ((y :: r)[i]).toNat) (by simp only [bytesV_get]; rw [List.getElem?_eq_getElem hi]; rfl)]
      have : (((y :: r).map fun x => (x.toNat : Int)).getD i 0) = ((y :: r)[i].toNat : Int) := by
        rw [List.getD_eq_getElem?_getD, List.getElem?_map, List.getElem?_eq_getElem hi]; rfl
      rw [this]) dst hd
    rw [this]
    have e1 : strOfNums ((y :: r).map fun x => (x.toNat : Int)) = ⟨(y :: r).toArray⟩ := by
      unfold strOfNums
      congr 1
      rw [List.map_map]
      congr 1
      conv => rhs; rw [← List.map_id (y :: r)]
      refine List.map_congr_left fun x _ => ?_
      simp
    rw [e1]

/-- a new row, marked or not, reads as its cells. -/
theorem Rd.newRow (w : World) (e : TypeId) (xs : List Value) (fz : Nat × Nat) (hx : xs.length ≤ maxLen) : Rd (· = w.heap.size) (w.alloc (.cells xs.toArray e fz)) (.slice (some ⟨w.heap.size, 0, none⟩) xs.length xs.length) xs :=
  ⟨_, xs.length, rfl, Nat.le_refl _, hx, fun _ => ⟨w.heap.size, 0, rfl, rfl, fun k u hu => by
    have : (w.alloc (.cells xs.toArray e fz)).heap[w.heap.size]? = some (.cells xs.toArray e fz) := heap_alloc_new w _
    unfold World.cell?
    simp only [Nat.zero_add]
    rw [this]
    simpa using hu⟩⟩

end Go.Proofs.YtdbhccehbjhbpaaGreatDoor

/- Maps, of this session's own: a block that is a map whose entries are L, in whatever order; look-up, store, delete, len, range. Nothing of the program. -/
namespace Go.Proofs.YtdbhccehbjhbpaaGreatDoor
open Go.RowKit
open Go.ChangeMaps (setBlock)
open Go.Maps (Keyed)

def entL (es : Array MapEntry) : List (Value × Value) := es.toList.map fun e => (e.key, e.val)

structure MapIs (P : Program) (kt : TypeId) (es : Array MapEntry) (clk : Nat) (L : List (Value × Value)) : Prop where
  young : ∀ e ∈ es.toList, e.born < clk
  stamps : (es.toList.map (·.born)).Nodup
  keyed : ∀ e ∈ es.toList, ∃ l, keyOf P kt e.key = some l
  apart : (es.toList.map (·.key)).Nodup
  perm : (entL es).Perm L

/-- Block b is a map, keyed by type kt, whose entries are L. -/
def MapAt (P : Program) (kt : TypeId) (w : World) (b : Nat) (L : List (Value × Value)) : Prop := ∃ es clk, w.heap[b]? = some (.map es clk) ∧ MapIs P kt es clk L

section
variable {P : Program} {kt : TypeId} {w w' : World} {b : Nat} {L L' L0 : List (Value × Value)}

theorem MapIs.perm' {es : Array MapEntry} {clk : Nat} (h : MapIs P kt es clk L) (hp : L.Perm L') : MapIs P kt es clk L' := ⟨h.young, h.stamps, h.keyed, h.apart, h.perm.trans hp⟩
theorem MapAt.perm (h : MapAt P kt w b L) (hp : L.Perm L') : MapAt P kt w b L' := let ⟨es, clk, hb, hm⟩ := h; ⟨es, clk, hb, hm.perm' hp⟩
theorem MapAt.keep (h : MapAt P kt w b L) (e : w'.heap[b]? = w.heap[b]?) : MapAt P kt w' b L := let ⟨es, clk, hb, hm⟩ := h; ⟨es, clk, e.trans hb, hm⟩
theorem MapAt.lt (h : MapAt P kt w b L) : b < w.heap.size := let ⟨_, _, hb, _⟩ := h; lt_of_heap hb
theorem MapAt.mod {S : Nat → Prop} (h : MapAt P kt w b L) (hm : Mod S w w') (hS : ¬ S b) : MapAt P kt w' b L := h.keep (hm.block b h.lt hS)
theorem entL_keys (es : Array MapEntry) : (entL es).map (·.1) = es.toList.map (·.key) := by simp [entL]
theorem MapAt.nodup (h : MapAt P kt w b L) : (L.map (·.1)).Nodup := by
  obtain ⟨es, clk, _, hm⟩ := h
  have := hm.apart
  rw [← entL_keys] at this
  exact ((hm.perm.map _).nodup_iff).1 this
theorem MapAt.keyed (h : MapAt P kt w b L) : ∀ p ∈ L, ∃ l, keyOf P kt p.1 = some l := by
  obtain ⟨es, clk, _, hm⟩ := h
  intro p hp
  have := hm.perm.mem_iff.2 hp
  obtain ⟨e, he, rfl⟩ := List.mem_map.1 this
  exact hm.keyed e he
theorem MapAt.made (P : Program) (kt : TypeId) (w : World) : MapAt P kt (w.alloc (.map #[] 0)) w.heap.size [] :=
  ⟨#[], 0, heap_alloc_new w _, by simp, by simp, by simp, by simp, by simp [entL]⟩
theorem MapAt.size (h : MapAt P kt w b L) : ∃ es clk, w.heap[b]? = some (.map es clk) ∧ es.size = L.length := by
  obtain ⟨es, clk, hb, hm⟩ := h
  exact ⟨es, clk, hb, by have := hm.perm.length_eq; simpa [entL] using this⟩

theorem setBlock_at (w : World) {b : Nat} (o : Obj) (h : b < w.heap.size) : (setBlock w b o).heap[b]? = some o := by
  simp [setBlock, h]
theorem setBlock_other (w : World) {b k : Nat} (o : Obj) (h : b ≠ k) : (setBlock w b o).heap[k]? = w.heap[k]? := by
  simp [setBlock, Array.getElem?_setIfInBounds_ne h]
theorem setBlock_size (w : World) (b : Nat) (o : Obj) : (setBlock w b o).heap.size = w.heap.size := by simp [setBlock]

/-- what the search for a key comes to. -/
theorem MapIs.find (K : Keyed P kt) {es : Array MapEntry} {clk : Nat} (h : MapIs P kt es clk L) (w : World) {k : Value} {l : Lit} (hk : keyOf P kt k = some l) :
    ((Instr.findKey kt k es.toList).run P w = .ok none w ∧ ∀ p ∈ L, p.1 ≠ k) ∨
    ∃ (j : Nat) (e : MapEntry), (Instr.findKey kt k es.toList).run P w = .ok (some (j, e.val)) w ∧ es.toList[j]? = some e ∧ e.key = k ∧ (k, e.val) ∈ L := by
  rcases K.find w hk es.toList h.keyed with ⟨h1, h2⟩ | ⟨j, e, h1, h2, h3⟩
  · refine .inl ⟨h1, fun p hp => ?_⟩
    obtain ⟨e, he, rfl⟩ := List.mem_map.1 (h.perm.mem_iff.2 hp)
    exact h2 e he
  · exact .inr ⟨j, e, h1, h2, h3, h.perm.mem_iff.1 (List.mem_map.2 ⟨e, List.mem_of_getElem? h2, by rw [h3]⟩)⟩

theorem uniq_val {L : List (Value × Value)} (hn : (L.map (·.1)).Nodup) {k v v' : Value} (h : (k, v) ∈ L) (h' : (k, v') ∈ L) : v = v' := by
  induction L with
  | nil => cases h
  | cons p r ih =>
    simp only [List.map_cons, List.nodup_cons, List.mem_map, not_exists, not_and] at hn
    rcases List.mem_cons.1 h with e1 | h
    · rcases List.mem_cons.1 h' with e2 | h'
      · rw [← e1] at e2; exact (Prod.mk.inj e2).2.symm
      · exact absurd (by rw [← e1]) (hn.1 (k, v') h')
    · rcases List.mem_cons.1 h' with e2 | h'
      · exact absurd (by rw [← e2]) (hn.1 (k, v) h)
      · exact ih hn.2 h h'

variable {t e : TypeId}

theorem MapAt.lookup_hit (K : Keyed P kt) (ht : P.underlying t = some (.map kt e)) (h : MapAt P kt w b L) {k v : Value} {l : Lit} (hk : keyOf P kt k = some l) (hm : (k, v) ∈ L) (ok : Bool) :
    (Instr.lookup t (.map (some b)) k ok).run P w = .ok (if ok then .tuple #[v, .bool true] else v) w := by
  have hn := h.nodup
  obtain ⟨es, clk, hb, hi⟩ := h
  rcases hi.find K w hk with ⟨_, h2⟩ | ⟨j, e0, h1, _, _, h4⟩
  · exact absurd rfl (h2 _ hm)
  · have := uniq_val hn hm h4
    subst this
    simp [Instr.lookup, run_underlying ht, MapKept.run_getObj_map hb, K.check w _ hk, h1, Result.andThen]

theorem MapAt.lookup_miss (K : Keyed P kt) (ht : P.underlying t = some (.map kt e)) (h : MapAt P kt w b L) {z : Value} (hz : (zeroValue e).run P w = .ok z w) {k : Value} {l : Lit} (hk : keyOf P kt k = some l) (hm : ∀ p ∈ L, p.1 ≠ k) (ok : Bool) :
    (Instr.lookup t (.map (some b)) k ok).run P w = .ok (if ok then .tuple #[z, .bool false] else z) w := by
  obtain ⟨es, clk, hb, hi⟩ := h
  rcases hi.find K w hk with ⟨h1, _⟩ | ⟨j, e0, _, _, _, h4⟩
  · simp [Instr.lookup, run_underlying ht, MapKept.run_getObj_map hb, K.check w _ hk, h1, hz, Result.andThen]
  · exact absurd rfl (hm _ h4)

theorem MapAt.store_new (K : Keyed P kt) (ht : P.underlying t = some (.map kt e)) (h : MapAt P kt w b L) {k : Value} {l : Lit} (hk : keyOf P kt k = some l) (hm : ∀ p ∈ L, p.1 ≠ k) (v : Value) :
    ∃ o, (Instr.mapUpdate t (.map (some b)) k v).run P w = .ok () (setBlock w b o) ∧ MapAt P kt (setBlock w b o) b ((k, v) :: L) := by
  have hlt := h.lt
  obtain ⟨es, clk, hb, hi⟩ := h
  rcases hi.find K w hk with ⟨h1, _⟩ | ⟨j, e0, _, _, _, h4⟩
  · refine ⟨.map (es.push ⟨k, v, clk⟩) (clk + 1), ?_, _, _, setBlock_at w _ hlt, ?_, ?_, ?_, ?_, ?_⟩
    · simp [Instr.mapUpdate, run_underlying ht, MapKept.run_getObj_map hb, K.check w false hk, h1, MapKept.run_setObj_map _ hb, Result.andThen, setBlock]
    · intro x hx
      simp only [Array.toList_push, List.mem_append, List.mem_singleton] at hx
      rcases hx with hx | rfl
      · have := hi.young x hx; omega
      · simp
    · simp only [Array.toList_push, List.map_append, List.map_cons, List.map_nil, List.nodup_append]
      refine ⟨hi.stamps, by simp, fun x hx y hy => ?_⟩
      obtain ⟨e', he', rfl⟩ := List.mem_map.1 hx
      have := hi.young e' he'
      simp at hy
      omega
    · intro x hx
      simp only [Array.toList_push, List.mem_append, List.mem_singleton] at hx
      rcases hx with hx | rfl
      · exact hi.keyed x hx
      · exact ⟨l, hk⟩
    · simp only [Array.toList_push, List.map_append, List.map_cons, List.map_nil, List.nodup_append]
      refine ⟨hi.apart, by simp, fun x hx y hy => ?_⟩
      obtain ⟨e', he', rfl⟩ := List.mem_map.1 hx
      simp at hy
      subst hy
      exact hm _ (hi.perm.mem_iff.1 (List.mem_map.2 ⟨e', he', rfl⟩))
    · simp only [entL, Array.toList_push, List.map_append, List.map_cons, List.map_nil]
      exact (List.perm_append_singleton _ _).trans (hi.perm.cons _)
  · exact absurd rfl (hm _ h4)

theorem set_perm' {α : Type} : ∀ (l : List α) (j : Nat) (x y : α), l[j]? = some x → ∀ r, l.Perm (x :: r) → (l.set j y).Perm (y :: r) := by
  intro l j x y hx r hp
  have hj : j < l.length := (List.getElem?_eq_some_iff.1 hx).1
  have e1 : l = l.take j ++ x :: l.drop (j + 1) := by
    have := List.take_append_drop j l
    rw [List.drop_eq_getElem_cons hj] at this
    have hx' : l[j] = x := by simpa [List.getElem?_eq_getElem hj] using hx
    rw [hx'] at this
    exact this.symm
  have e2 : l.set j y = l.take j ++ y :: l.drop (j + 1) := List.set_eq_take_append_cons_drop .. |>.trans (by simp [hj])
  rw [e2]
  have : (l.take j ++ l.drop (j + 1)).Perm r := by
    have h1 : (x :: (l.take j ++ l.drop (j + 1))).Perm (x :: r) := (List.perm_middle.symm.trans (by rw [← e1])).trans hp
    exact (List.perm_cons x).1 h1
  exact List.perm_middle.trans (this.cons y)

theorem MapAt.store_old (K : Keyed P kt) (ht : P.underlying t = some (.map kt e)) (h : MapAt P kt w b L) {k v0 : Value} {l : Lit} (hk : keyOf P kt k = some l) (hp : L.Perm ((k, v0) :: L0)) (v : Value) :
    ∃ o, (Instr.mapUpdate t (.map (some b)) k v).run P w = .ok () (setBlock w b o) ∧ MapAt P kt (setBlock w b o) b ((k, v) :: L0) := by
  have hlt := h.lt
  have hn := h.nodup
  obtain ⟨es, clk, hb, hi⟩ := h
  have hmem : (k, v0) ∈ L := hp.mem_iff.2 (by simp)
  rcases hi.find K w hk with ⟨_, h2⟩ | ⟨j, e0, h1, h2, h3, h4⟩
  · exact absurd rfl (h2 _ hmem)
  · have hv0 : v0 = e0.val := uniq_val hn hmem h4
    have hj : j < es.size := by have := (List.getElem?_eq_some_iff.1 h2).1; simpa using this
    have hesj : es[j]? = some e0 := by rw [← h2]; simp
    have hml : (es.modify j fun e => { e with key := k, val := v }).toList = es.toList.set j { e0 with key := k, val := v } := by
      have he : es[j] = e0 := by simpa [Array.getElem?_eq_getElem hj] using hesj
      apply List.ext_getElem?
      intro i
      by_cases hij : j = i
      · subst hij
        simp [hj, he]
      · simp [hij]
    have hset : ∀ {β : Type} (f : MapEntry → β), f { e0 with key := k, val := v } = f e0 → ((es.toList.set j { e0 with key := k, val := v }).map f) = es.toList.map f := by
      intro β f hf
      rw [List.map_set, hf]
      apply List.ext_getElem?
      intro i
      by_cases hij : j = i
      · subst hij
        have he : es[j] = e0 := by simpa [Array.getElem?_eq_getElem hj] using hesj
        simp [hj, he]
      · simp [hij]
    refine ⟨.map (es.modify j fun e => { e with key := k, val := v }) clk, ?_, _, _, setBlock_at w _ hlt, ?_, ?_, ?_, ?_, ?_⟩
    · simp [Instr.mapUpdate, run_underlying ht, MapKept.run_getObj_map hb, K.check w false hk, h1, hesj, h3, K.stays w hk, MapKept.run_setObj_map _ hb, Result.andThen, setBlock]
    · intro x hx
      rw [hml] at hx
      rcases List.mem_or_eq_of_mem_set hx with hx | rfl
      · exact hi.young x hx
      · exact hi.young e0 (List.mem_of_getElem? h2)
    · rw [hml, hset (·.born) rfl]; exact hi.stamps
    · intro x hx
      rw [hml] at hx
      rcases List.mem_or_eq_of_mem_set hx with hx | rfl
      · exact hi.keyed x hx
      · exact ⟨l, hk⟩
    · rw [hml, hset (·.key) h3.symm]; exact hi.apart
    · unfold entL
      rw [hml, List.map_set]
      refine set_perm' _ j (k, v0) _ ?_ L0 (hi.perm.trans hp)
      simp [hesj, h3, hv0]

theorem eraseIdx_perm {α : Type} (l : List α) (j : Nat) (x : α) (hx : l[j]? = some x) : l.Perm (x :: l.eraseIdx j) := by
  have hj : j < l.length := (List.getElem?_eq_some_iff.1 hx).1
  have hx' : l[j] = x := by simpa [List.getElem?_eq_getElem hj] using hx
  rw [List.eraseIdx_eq_take_drop_succ]
  have := List.take_append_drop j l
  rw [List.drop_eq_getElem_cons hj, hx'] at this
  exact (List.Perm.of_eq this.symm).trans List.perm_middle

theorem MapIs.erase {es : Array MapEntry} {clk : Nat} (h : MapIs P kt es clk L) {j : Nat} {e0 : MapEntry} (hj : es.toList[j]? = some e0) (hp : L.Perm ((e0.key, e0.val) :: L0)) :
    MapIs P kt (es.eraseIdxIfInBounds j) clk L0 := by
  have hl : (es.eraseIdxIfInBounds j).toList = es.toList.eraseIdx j := by
    unfold Array.eraseIdxIfInBounds
    split
    · simp
    · rename_i hlt
      rw [List.eraseIdx_of_length_le (by simpa using hlt)]
  have sub : ∀ x ∈ es.toList.eraseIdx j, x ∈ es.toList := fun x hx => (List.eraseIdx_sublist _ _).subset hx
  refine ⟨?_, ?_, ?_, ?_, ?_⟩
  · intro x hx; rw [hl] at hx; exact h.young x (sub x hx)
  · rw [hl]; exact h.stamps.sublist ((List.eraseIdx_sublist _ _).map _)
  · intro x hx; rw [hl] at hx; exact h.keyed x (sub x hx)
  · rw [hl]; exact h.apart.sublist ((List.eraseIdx_sublist _ _).map _)
  · unfold entL
    rw [hl]
    have h1 := (eraseIdx_perm es.toList j e0 hj).map fun e => (e.key, e.val)
    exact (List.perm_cons _).1 (h1.symm.trans (h.perm.trans hp))

theorem MapAt.delete_hit (K : Keyed P kt) (ht : P.underlying t = some (.map kt e)) (h : MapAt P kt w b L) {k v0 : Value} {l : Lit} (hk : keyOf P kt k = some l) (hp : L.Perm ((k, v0) :: L0)) (kt' ty : TypeId) :
    ∃ o, (Builtin.delete_ #[t, kt'] ty #[.map (some b), k]).run P w = .ok (.tuple #[]) (setBlock w b o) ∧ MapAt P kt (setBlock w b o) b L0 := by
  have hlt := h.lt
  have hn := h.nodup
  obtain ⟨es, clk, hb, hi⟩ := h
  have hmem : (k, v0) ∈ L := hp.mem_iff.2 (by simp)
  rcases hi.find K w hk with ⟨_, h2⟩ | ⟨j, e0, h1, h2, h3, h4⟩
  · exact absurd rfl (h2 _ hmem)
  · have hv0 : v0 = e0.val := uniq_val hn hmem h4
    refine ⟨.map (es.eraseIdxIfInBounds j) clk, ?_, _, _, setBlock_at w _ hlt, hi.erase h2 (by rw [h3, ← hv0]; exact hp)⟩
    simp [Builtin.delete_, run_underlying ht, MapKept.run_getObj_map hb, K.check w _ hk, h1, MapKept.run_setObj_map _ hb, Result.andThen, setBlock]

theorem MapAt.delete_miss (K : Keyed P kt) (ht : P.underlying t = some (.map kt e)) (h : MapAt P kt w b L) {k : Value} {l : Lit} (hk : keyOf P kt k = some l) (hm : ∀ p ∈ L, p.1 ≠ k) (kt' ty : TypeId) :
    ∃ o, (Builtin.delete_ #[t, kt'] ty #[.map (some b), k]).run P w = .ok (.tuple #[]) (setBlock w b o) ∧ MapAt P kt (setBlock w b o) b L := by
  have hlt := h.lt
  obtain ⟨es, clk, hb, hi⟩ := h
  rcases hi.find K w hk with ⟨h1, _⟩ | ⟨j, e0, _, _, _, h4⟩
  · refine ⟨.map es clk, ?_, _, _, setBlock_at w _ hlt, hi⟩
    simp [Builtin.delete_, run_underlying ht, MapKept.run_getObj_map hb, K.check w _ hk, h1, MapKept.run_setObj_map _ hb, Result.andThen, setBlock]
  · exact absurd rfl (hm _ h4)

theorem MapAt.run_len (ht : P.underlying t = some (.map kt e)) (h : MapAt P kt w b L) (ty : TypeId) : (Builtin.len_ #[t] ty #[.map (some b)]).run P w = .ok (.int .i64 L.length) w := by
  obtain ⟨es, clk, hb, hs⟩ := h.size
  simp [Builtin.len_, run_underlying ht, MapKept.run_getObj_map hb, Result.andThen, goInt, hs]

/-! ### ranging -/

/-- Block r ranges over the map b: its entries are L, those still to come are todo. -/
def IterAt (P : Program) (kt : TypeId) (w : World) (r b : Nat) (L todo : List (Value × Value)) : Prop :=
  ∃ es clk since seen c0, w.heap[b]? = some (.map es clk) ∧ w.heap[r]? = some (.mapIter (some b) since seen c0) ∧ MapIs P kt es clk L ∧ (entL (leftOf es seen)).Perm todo ∧
    (∀ x ∈ es.toList, x.born < since) ∧ since ≤ c0 ∧ since ≤ clk

theorem IterAt.map {r : Nat} {todo : List (Value × Value)} (h : IterAt P kt w r b L todo) : MapAt P kt w b L := let ⟨es, clk, _, _, _, hb, _, hi, _⟩ := h; ⟨es, clk, hb, hi⟩
theorem IterAt.lt {r : Nat} {todo : List (Value × Value)} (h : IterAt P kt w r b L todo) : r < w.heap.size := let ⟨_, _, _, _, _, _, hr, _⟩ := h; lt_of_heap hr
theorem IterAt.ne {r : Nat} {todo : List (Value × Value)} (h : IterAt P kt w r b L todo) : r ≠ b := by
  obtain ⟨_, _, _, _, _, hb, hr, _⟩ := h
  rintro rfl
  rw [hb] at hr
  cases hr
theorem IterAt.keep {r : Nat} {todo : List (Value × Value)} (h : IterAt P kt w r b L todo) (e1 : w'.heap[b]? = w.heap[b]?) (e2 : w'.heap[r]? = w.heap[r]?) : IterAt P kt w' r b L todo := by
  obtain ⟨es, clk, since, seen, c0, hb, hr, rest⟩ := h
  exact ⟨es, clk, since, seen, c0, e1.trans hb, e2.trans hr, rest⟩
theorem IterAt.mod {S : Nat → Prop} {r : Nat} {todo : List (Value × Value)} (h : IterAt P kt w r b L todo) (hm : Mod S w w') (h1 : ¬ S b) (h2 : ¬ S r) : IterAt P kt w' r b L todo :=
  h.keep (hm.block b h.map.lt h1) (hm.block r h.lt h2)
theorem IterAt.perm {r : Nat} {todo todo' : List (Value × Value)} (h : IterAt P kt w r b L todo) (hL : L.Perm L') (ht : todo.Perm todo') : IterAt P kt w r b L' todo' := by
  obtain ⟨es, clk, since, seen, c0, hb, hr, hi, hl, rest⟩ := h
  exact ⟨es, clk, since, seen, c0, hb, hr, hi.perm' hL, hl.trans ht, rest⟩

theorem MapAt.run_range (ht : P.underlying t = some (.map kt e)) (h : MapAt P kt w b L) :
    ∃ o, (Instr.range t (.map (some b))).run P w = .ok (.pointer (some ⟨w.heap.size, 0, none⟩)) (w.alloc o) ∧ IterAt P kt (w.alloc o) w.heap.size b L L := by
  have hlt := h.lt
  obtain ⟨es, clk, hb, hi⟩ := h
  refine ⟨.mapIter (some b) clk #[] clk, ?_, es, clk, clk, #[], clk, (Below.heap_alloc w _ b hlt).trans hb, heap_alloc_new w _, hi, ?_, hi.young, Nat.le_refl _, Nat.le_refl _⟩
  · simp [Instr.range, run_underlying ht, MapKept.run_getObj_map hb, Result.andThen]
  · have : leftOf es #[] = es := by simp [leftOf]
    rw [this]
    exact hi.perm

theorem nodup_filter_push {l : List MapEntry} (hn : (l.map (·.born)).Nodup) (seen : Array Nat) (e : MapEntry) (he : e ∈ l.filter fun x => !seen.contains x.born) :
    (l.filter fun x => !seen.contains x.born).Perm (e :: l.filter fun x => !(seen.push e.born).contains x.born) := by
  induction l with
  | nil => simp at he
  | cons x r ih =>
    simp only [List.map_cons, List.nodup_cons] at hn
    by_cases hx : seen.contains x.born
    · have hx2 : (seen.push e.born).contains x.born = true := by
        simp only [Array.contains_iff_mem, Array.mem_push] at hx ⊢
        exact .inl hx
      simp only [List.filter_cons, hx, hx2, Bool.not_true, Bool.false_eq_true, if_false] at he ⊢
      exact ih hn.2 he
    · simp only [Bool.not_eq_true] at hx
      simp only [List.filter_cons, hx, Bool.not_false, if_true] at he ⊢
      rcases List.mem_cons.1 he with rfl | he
      · have h1 : (seen.push e.born).contains e.born = true := by simp
        simp only [h1, Bool.not_true, Bool.false_eq_true, if_false]
        refine List.Perm.cons _ (List.Perm.of_eq (List.filter_congr fun y hy => ?_))
        have hne : y.born ≠ e.born := fun h => hn.1 (List.mem_map.2 ⟨y, hy, h⟩)
        simp [hne]
      · have hne : x.born ≠ e.born := fun h => hn.1 (List.mem_map.2 ⟨e, (List.mem_filter.1 he).1, h.symm⟩)
        have h1 : (seen.push e.born).contains x.born = false := by simpa [Array.contains_push, hne] using hx
        simp only [h1, Bool.not_false, if_true]
        exact ((ih hn.2 he).cons x).trans (List.Perm.swap _ _ _)

theorem toList_leftOf (es : Array MapEntry) (seen : Array Nat) : (leftOf es seen).toList = es.toList.filter fun x => !seen.contains x.born := by simp [leftOf]

/-- the step: nothing is left, or an entry comes, whichever the tape says. -/
theorem IterAt.run_next {r : Nat} {todo : List (Value × Value)} (h : IterAt P kt w r b L todo) (ty : TypeId) :
    (todo = [] ∧ (Instr.next (.pointer (some ⟨r, 0, none⟩)) false ty).run P w = .ok (.tuple #[.bool false]) w) ∨
    ∃ k v todo' w', todo.Perm ((k, v) :: todo') ∧ (k, v) ∈ L ∧ (Instr.next (.pointer (some ⟨r, 0, none⟩)) false ty).run P w = .ok (.tuple #[.bool true, k, v]) w' ∧ IterAt P kt w' r b L todo' ∧
      Mod (· = r) w w' ∧ w'.heap.size = w.heap.size ∧ (Instr.entry (.pointer (some ⟨r, 0, none⟩))).run P w' = .ok (.tuple #[k, v]) w' := by
  have hne := h.ne
  have hlt := h.lt
  obtain ⟨es, clk, since, seen, c0, hb, hr, hi, hl, ho, hs, hsc⟩ := h
  rcases run_next_at (P := P) w ty r b since c0 seen es clk hr hb ho hs with ⟨h0, hrun⟩ | ⟨e, he, w1, hw1, hrun⟩
  · have : leftOf es seen = #[] := Array.eq_empty_of_size_eq_zero h0
    rw [this] at hl
    have : todo = [] := by simpa [entL] using hl.symm
    exact .inl ⟨this, hrun⟩
  · have hmem := mem_left he
    have hb1 : w1.heap = w.heap := by rcases hw1 with rfl | rfl <;> rfl
    have hr' : (setBlock w1 r (.mapIter (some b) since (seen.push e.born) clk)).heap[r]? = some (.mapIter (some b) since (seen.push e.born) clk) := setBlock_at w1 _ (by rw [hb1]; exact hlt)
    have hb' : (setBlock w1 r (.mapIter (some b) since (seen.push e.born) clk)).heap[b]? = some (.map es clk) := by rw [setBlock_other w1 _ hne, hb1]; exact hb
    have hmod : Mod (· = r) w w1 := by
      rcases hw1 with rfl | rfl
      · exact Mod.refl _ _
      · exact (Mod.refl _ _).drew
    refine .inr ⟨e.key, e.val, entL (leftOf es (seen.push e.born)), _, ?_, hi.perm.mem_iff.1 (List.mem_map.2 ⟨e, hmem.1, rfl⟩), hrun, ⟨es, clk, since, seen.push e.born, clk, hb', hr', hi, List.Perm.refl _, ho, hsc, hsc⟩, hmod.setBlock (fun _ => rfl) _, by rw [setBlock_size, hb1],
      run_entry_at _ r b since seen es clk e hr' hb' hmem.1 hi.stamps⟩
    refine hl.symm.trans ?_
    unfold entL
    rw [toList_leftOf, toList_leftOf]
    rw [toList_leftOf] at he
    exact (nodup_filter_push hi.stamps seen e he).map _
end
end Go.Proofs.YtdbhccehbjhbpaaGreatDoor

/- Rows of things in memory, each with a footprint of its own ('Big'); maps of such things ('MapBig'). Nothing of the program. -/
namespace Go.Proofs.YtdbhccehbjhbpaaGreatDoor
open Go.RowKit
open Go.ChangeMaps (setBlock)
open Go.Maps (Keyed)

/-- A thing in memory: with a footprint, on which alone it hangs. -/
structure Loc {α : Type} (R : α → World → List Nat → Prop) : Prop where
  keep : ∀ {x : α} {w w' : World} {F : List Nat}, R x w F → (∀ b ∈ F, w'.heap[b]? = w.heap[b]?) → R x w' F
  lt : ∀ {x : α} {w : World} {F : List Nat}, R x w F → ∀ b ∈ F, b < w.heap.size

def Big {α : Type} (R : α → World → List Nat → Prop) : List α → World → List Nat → Prop
  | [], _, F => F = []
  | x :: l, w, F => ∃ F1 F2, R x w F1 ∧ Big R l w F2 ∧ F = F1 ++ F2

section
variable {α : Type} {R : α → World → List Nat → Prop}

theorem Big.loc (hR : Loc R) : Loc (Big R) where
  keep := fun {l w w' F} h hk => by
    induction l generalizing F with
    | nil => exact h
    | cons x l ih =>
      obtain ⟨F1, F2, h1, h2, rfl⟩ := h
      exact ⟨F1, F2, hR.keep h1 (fun b hb => hk b (by simp [hb])), ih h2 (fun b hb => hk b (by simp [hb])), rfl⟩
  lt := fun {l w F} h => by
    induction l generalizing F with
    | nil => intro b hb; rw [show F = [] from h] at hb; cases hb
    | cons x l ih =>
      obtain ⟨F1, F2, h1, h2, rfl⟩ := h
      intro b hb
      rcases List.mem_append.1 hb with hb | hb
      · exact hR.lt h1 b hb
      · exact ih h2 b hb

theorem Big.append {w : World} : ∀ {l m : List α} {F : List Nat}, Big R (l ++ m) w F ↔ ∃ F1 F2, Big R l w F1 ∧ Big R m w F2 ∧ F = F1 ++ F2
  | [], m, F => by
    constructor
    · intro h; exact ⟨[], F, rfl, h, rfl⟩
    · rintro ⟨F1, F2, h1, h2, rfl⟩
      rw [show F1 = [] from h1]; exact h2
  | x :: l, m, F => by
    constructor
    · rintro ⟨F1, F2, h1, h2, rfl⟩
      obtain ⟨G1, G2, h3, h4, rfl⟩ := (Big.append (l := l) (m := m)).1 h2
      exact ⟨F1 ++ G1, G2, ⟨F1, G1, h1, h3, rfl⟩, h4, by simp⟩
    · rintro ⟨F1, F2, ⟨G1, G2, h1, h3, rfl⟩, h2, rfl⟩
      exact ⟨G1, G2 ++ F2, h1, (Big.append (l := l) (m := m)).2 ⟨G2, F2, h3, h2, rfl⟩, by simp⟩

/-- One of them in focus: what becomes of the row when that one alone is worked on. -/
theorem Big.focus (hR : Loc R) {w : World} {l1 l2 : List α} {x : α} {F : List Nat} (h : Big R (l1 ++ x :: l2) w F) (hn : F.Nodup) :
    ∃ Fx, R x w Fx ∧ Fx.Nodup ∧ (∀ b ∈ Fx, b ∈ F) ∧
      ∀ w' x' Fx', R x' w' Fx' → Upd w w' Fx Fx' → ∃ F', Big R (l1 ++ x' :: l2) w' F' ∧ Upd w w' F F' ∧ (∀ b ∈ F', b ∈ Fx' ∨ b ∈ F ∧ b ∉ Fx) := by
  obtain ⟨F1, F2, h1, ⟨Fx, F3, hx, h3, rfl⟩, rfl⟩ := Big.append.1 h
  rw [List.nodup_append] at hn
  obtain ⟨n1, n2, d12⟩ := hn
  rw [List.nodup_append] at n2
  obtain ⟨nx, n3, dx3⟩ := n2
  refine ⟨Fx, hx, nx, fun b hb => by simp [hb], fun w' x' Fx' hx' hu => ?_⟩
  have a1 : ∀ b ∈ F1, b ∉ Fx := fun b hb hbx => d12 b hb b (by simp [hbx]) rfl
  have a3 : ∀ b ∈ F3, b ∉ Fx := fun b hb hbx => dx3 b hbx b hb rfl
  obtain ⟨k1, e1⟩ := hu.other a1 ((Big.loc hR).lt h1)
  obtain ⟨k3, e3⟩ := hu.other a3 ((Big.loc hR).lt h3)
  refine ⟨F1 ++ (Fx' ++ F3), Big.append.2 ⟨F1, Fx' ++ F3, (Big.loc hR).keep h1 k1, ⟨Fx', F3, hx', (Big.loc hR).keep h3 k3, rfl⟩, rfl⟩, ⟨hu.mod.mono (fun b _ hb => by simp [hb]), ?_, ?_⟩, ?_⟩
  · rw [List.nodup_append]
    refine ⟨n1, ?_, ?_⟩
    · rw [List.nodup_append]
      refine ⟨hu.nodup, n3, ?_⟩
      intro a ha b hb hab
      subst hab
      exact e3 a hb ha
    · intro a ha b hb hab
      subst hab
      rcases List.mem_append.1 hb with hb | hb
      · exact e1 a ha hb
      · exact d12 a ha a (by simp [hb]) rfl
  · intro b hb
    rcases List.mem_append.1 hb with hb | hb
    · exact .inl (by simp [hb])
    · rcases List.mem_append.1 hb with hb | hb
      · rcases hu.sub b hb with h | h
        · exact .inl (by simp [h])
        · exact .inr h
      · exact .inl (by simp [hb])
  · intro b hb
    rcases List.mem_append.1 hb with hb | hb
    · exact .inr ⟨by simp [hb], a1 b hb⟩
    · rcases List.mem_append.1 hb with hb | hb
      · exact .inl hb
      · exact .inr ⟨by simp [hb], a3 b hb⟩

/-- One of them goes. -/
theorem Big.without (_hR : Loc R) {w : World} {l1 l2 : List α} {x : α} {F : List Nat} (h : Big R (l1 ++ x :: l2) w F) (hn : F.Nodup) :
    ∃ Fx F', R x w Fx ∧ Big R (l1 ++ l2) w F' ∧ F'.Nodup ∧ (∀ b ∈ F', b ∈ F ∧ b ∉ Fx) ∧ (∀ b ∈ Fx, b ∈ F) := by
  obtain ⟨F1, F2, h1, ⟨Fx, F3, hx, h3, rfl⟩, rfl⟩ := Big.append.1 h
  rw [List.nodup_append] at hn
  obtain ⟨n1, n2, d12⟩ := hn
  rw [List.nodup_append] at n2
  obtain ⟨nx, n3, dx3⟩ := n2
  refine ⟨Fx, F1 ++ F3, hx, Big.append.2 ⟨F1, F3, h1, h3, rfl⟩, ?_, ?_, fun b hb => by simp [hb]⟩
  · rw [List.nodup_append]
    exact ⟨n1, n3, fun a ha b hb => d12 a ha b (by simp [hb])⟩
  · intro b hb
    rcases List.mem_append.1 hb with hb | hb
    · exact ⟨by simp [hb], fun hbx => d12 b hb b (by simp [hbx]) rfl⟩
    · exact ⟨by simp [hb], fun hbx => dx3 b hbx b hb rfl⟩

theorem Big.perm {w : World} {l m : List α} (hp : l.Perm m) : ∀ {F : List Nat}, Big R l w F → ∃ G, Big R m w G ∧ F.Perm G := by
  induction hp with
  | nil => intro F h; exact ⟨F, h, List.Perm.refl _⟩
  | cons x _ ih =>
    rintro F ⟨F1, F2, h1, h2, rfl⟩
    obtain ⟨G, hG, hp⟩ := ih h2
    exact ⟨F1 ++ G, ⟨F1, G, h1, hG, rfl⟩, hp.append_left _⟩
  | swap x y l =>
    rintro F ⟨F1, _, h1, ⟨F2, F3, h2, h3, rfl⟩, rfl⟩
    exact ⟨F2 ++ (F1 ++ F3), ⟨F2, F1 ++ F3, h2, ⟨F1, F3, h1, h3, rfl⟩, rfl⟩, by
      rw [← List.append_assoc, ← List.append_assoc]
      exact List.perm_append_comm.append_right _⟩
  | trans _ _ ih1 ih2 =>
    intro F h
    obtain ⟨G, hG, p1⟩ := ih1 h
    obtain ⟨H, hH, p2⟩ := ih2 hG
    exact ⟨H, hH, p1.trans p2⟩
end

/-! ## maps of things -/

/-- Block bm is a map whose entries are M: each key as kv says, each element a thing (R), with footprints apart; F: all blocks, bm among them. -/
def MapBig {κ ν : Type} (P : Program) (kt : TypeId) (kv : κ → Value) (R : ν → Value → World → List Nat → Prop) (bm : Nat) (M : List (κ × ν)) (w : World) (F : List Nat) : Prop :=
  ∃ (L : List ((κ × ν) × Value)) (G : List Nat), L.map (·.1) = M ∧ MapAt P kt w bm (L.map fun x => (kv x.1.1, x.2)) ∧ Big (fun x => R x.1.2 x.2) L w G ∧ F = bm :: G

section
variable {κ ν : Type} {P : Program} {kt t e : TypeId} {kv : κ → Value} {R : ν → Value → World → List Nat → Prop} {bm : Nat} {M : List (κ × ν)} {w : World} {F : List Nat}

theorem MapBig.loc (hR : Loc (fun x : (κ × ν) × Value => R x.1.2 x.2)) : Loc (MapBig P kt kv R bm) where
  keep := fun {M w w' F} h hk => by
    obtain ⟨L, G, hL, hm, hb, rfl⟩ := h
    exact ⟨L, G, hL, hm.keep (hk bm (by simp)), (Big.loc hR).keep hb (fun b hb => hk b (by simp [hb])), rfl⟩
  lt := fun {M w F} h => by
    obtain ⟨L, G, hL, hm, hb, rfl⟩ := h
    intro b hb'
    rcases List.mem_cons.1 hb' with rfl | h'
    · exact hm.lt
    · exact (Big.loc hR).lt hb b h'

theorem MapBig.perm (h : MapBig P kt kv R bm M w F) (hn : F.Nodup) {M' : List (κ × ν)} (hp : M.Perm M') : ∃ F', MapBig P kt kv R bm M' w F' ∧ F.Perm F' := by
  obtain ⟨L, G, rfl, hm, hb, rfl⟩ := h
  obtain ⟨L', hL', hp'⟩ : ∃ L' : List ((κ × ν) × Value), L'.map (·.1) = M' ∧ L.Perm L' := by
    clear hm hb hn
    generalize hq : L.map (·.1) = Q at hp
    induction hp generalizing L with
    | nil => exact ⟨L, hq, List.Perm.refl _⟩
    | cons x _ ih =>
      cases L with
      | nil => cases hq
      | cons y L =>
        simp only [List.map_cons, List.cons.injEq] at hq
        obtain ⟨L', h1, h2⟩ := ih L hq.2
        exact ⟨y :: L', by simp [h1, hq.1], h2.cons y⟩
    | swap x y l =>
      cases L with
      | nil => cases hq
      | cons y' L =>
        cases L with
        | nil => simp at hq
        | cons x' L =>
          simp only [List.map_cons, List.cons.injEq] at hq
          exact ⟨x' :: y' :: L, by simp [hq], List.Perm.swap _ _ _⟩
    | trans _ _ ih1 ih2 =>
      obtain ⟨L1, h1, p1⟩ := ih1 L hq
      obtain ⟨L2, h2, p2⟩ := ih2 L1 h1
      exact ⟨L2, h2, p1.trans p2⟩
  obtain ⟨G', hb', hpG⟩ := Big.perm hp' hb
  exact ⟨bm :: G', ⟨L', G', hL', hm.perm (hp'.map _), hb', rfl⟩, hpG.cons _⟩

theorem MapBig.length (ht : P.underlying t = some (.map kt e)) (h : MapBig P kt kv R bm M w F) (ty : TypeId) : (Builtin.len_ #[t] ty #[.map (some bm)]).run P w = .ok (.int .i64 M.length) w := by
  obtain ⟨L, G, rfl, hm, _, _⟩ := h
  have := hm.run_len ht ty
  simpa using this

theorem MapBig.nodup (h : MapBig P kt kv R bm M w F) : (M.map fun p => kv p.1).Nodup := by
  obtain ⟨L, G, rfl, hm, _, _⟩ := h
  have := hm.nodup
  simpa [List.map_map, Function.comp_def] using this

theorem MapBig.made (P : Program) (kt : TypeId) (kv : κ → Value) (R : ν → Value → World → List Nat → Prop) (w : World) : MapBig P kt kv R w.heap.size [] (w.alloc (.map #[] 0)) [w.heap.size] :=
  ⟨[], [], rfl, MapAt.made P kt w, rfl, rfl⟩

/-- a key that is not there. -/
theorem MapBig.miss (K : Keyed P kt) (ht : P.underlying t = some (.map kt e)) (h : MapBig P kt kv R bm M w F) {z : Value} (hz : (zeroValue e).run P w = .ok z w) {k : κ} {l : Lit} (hk : keyOf P kt (kv k) = some l) (hm : ∀ p ∈ M, kv p.1 ≠ kv k) (ok : Bool) :
    (Instr.lookup t (.map (some bm)) (kv k) ok).run P w = .ok (if ok then .tuple #[z, .bool false] else z) w := by
  obtain ⟨L, G, rfl, hma, _, _⟩ := h
  refine hma.lookup_miss K ht hz hk (fun p hp => ?_) ok
  obtain ⟨x, hx, rfl⟩ := List.mem_map.1 hp
  exact hm x.1 (List.mem_map.2 ⟨x, hx, rfl⟩)

/-- a key that is there: what is found; and what becomes of the map when that one thing is worked on. -/
theorem MapBig.focus (hR : Loc (fun x : (κ × ν) × Value => R x.1.2 x.2)) (K : Keyed P kt) (ht : P.underlying t = some (.map kt e)) {M1 M2 : List (κ × ν)} {k : κ} {x : ν} (h : MapBig P kt kv R bm (M1 ++ (k, x) :: M2) w F) (hn : F.Nodup) {l : Lit} (hk : keyOf P kt (kv k) = some l) :
    ∃ v Fx, R x v w Fx ∧ Fx.Nodup ∧ (∀ b ∈ Fx, b ∈ F ∧ b ≠ bm) ∧ (∀ ok, (Instr.lookup t (.map (some bm)) (kv k) ok).run P w = .ok (if ok then .tuple #[v, .bool true] else v) w) ∧
      ∀ w' x' Fx', R x' v w' Fx' → Upd w w' Fx Fx' → ∃ F', MapBig P kt kv R bm (M1 ++ (k, x') :: M2) w' F' ∧ Upd w w' F F' ∧ ∀ b ∈ F', b ∈ F ∨ b ∈ Fx' := by
  obtain ⟨L, G, hL, hm, hb, rfl⟩ := h
  obtain ⟨L1, L2', rfl, hL1, hL2⟩ := List.map_eq_append_iff.1 hL
  obtain ⟨y, L2, rfl, hy, rfl⟩ := List.map_eq_cons_iff.1 hL2
  subst hL1
  obtain ⟨⟨k', x''⟩, v⟩ := y
  obtain ⟨rfl, rfl⟩ := Prod.mk.inj hy
  rw [List.nodup_cons] at hn
  obtain ⟨Fx, hx, nx, sx, hfoc⟩ := Big.focus hR hb hn.2
  refine ⟨v, Fx, hx, nx, fun b hb => ⟨by simp [sx b hb], fun e => hn.1 (e ▸ sx b hb)⟩, fun ok => hm.lookup_hit K ht hk (by simp) ok, fun w' x' Fx' hx' hu => ?_⟩
  obtain ⟨F', hb', hu', hs⟩ := hfoc w' ((k', x'), v) Fx' hx' hu
  have hbm : bm ∉ Fx := fun h => hn.1 (sx _ h)
  obtain ⟨k1, e1⟩ := hu.other (G := [bm]) (by simpa using hbm) (by simpa using hm.lt)
  refine ⟨bm :: F', ⟨L1 ++ ((k', x'), v) :: L2, F', by simp, ?_, hb', rfl⟩, ⟨hu'.mod.mono (fun b _ hb => by simp [hb]), ?_, ?_⟩, ?_⟩
  · have := hm.keep (k1 bm (by simp))
    simpa using this
  · rw [List.nodup_cons]
    refine ⟨fun h => ?_, hu'.nodup⟩
    rcases hs bm h with h | h
    · exact e1 bm (by simp) h
    · exact hn.1 h.1
  · intro b hb
    rcases List.mem_cons.1 hb with rfl | hb
    · exact .inl (by simp)
    · rcases hu'.sub b hb with h | h
      · exact .inl (by simp [h])
      · exact .inr h
  · intro b hb
    rcases List.mem_cons.1 hb with rfl | hb
    · exact .inl (by simp)
    · rcases hs b hb with h | h
      · exact .inr h
      · exact .inl (by simp [h.1])

/-- a new key: the thing that is laid in is one apart from all. -/
theorem MapBig.store_new (hR : Loc (fun x : (κ × ν) × Value => R x.1.2 x.2)) (K : Keyed P kt) (ht : P.underlying t = some (.map kt e)) (h : MapBig P kt kv R bm M w F) (hn : F.Nodup) {k : κ} {l : Lit} (hk : keyOf P kt (kv k) = some l) (hm : ∀ p ∈ M, kv p.1 ≠ kv k)
    {x : ν} {v : Value} {Fx : List Nat} (hx : R x v w Fx) (nx : Fx.Nodup) (dx : ∀ b ∈ Fx, b ∉ F) :
    ∃ o, (Instr.mapUpdate t (.map (some bm)) (kv k) v).run P w = .ok () (setBlock w bm o) ∧ ∃ F', MapBig P kt kv R bm ((k, x) :: M) (setBlock w bm o) F' ∧ F'.Nodup ∧ (∀ b ∈ F', b ∈ F ∨ b ∈ Fx) := by
  obtain ⟨L, G, rfl, hma, hb, rfl⟩ := h
  rw [List.nodup_cons] at hn
  obtain ⟨o, hrun, hma'⟩ := hma.store_new K ht hk (fun p hp => by
    obtain ⟨x, hx, rfl⟩ := List.mem_map.1 hp
    exact hm x.1 (List.mem_map.2 ⟨x, hx, rfl⟩)) v
  have hk1 : ∀ b, b ≠ bm → (setBlock w bm o).heap[b]? = w.heap[b]? := fun b hb => setBlock_other w o (Ne.symm hb)
  refine ⟨o, hrun, bm :: (Fx ++ G), ⟨((k, x), v) :: L, Fx ++ G, by simp, by simpa using hma', ⟨Fx, G, hR.keep (x := ((k, x), v)) hx (fun b hb => hk1 b (by rintro rfl; exact dx b hb (by simp))), (Big.loc hR).keep hb (fun b hb => hk1 b (by rintro rfl; exact hn.1 hb)), rfl⟩, rfl⟩, ?_, ?_⟩
  · rw [List.nodup_cons, List.nodup_append]
    refine ⟨fun h => ?_, nx, hn.2, ?_⟩
    · rcases List.mem_append.1 h with h | h
      · exact dx _ h (by simp)
      · exact hn.1 h
    · intro a ha b hb hab
      subst hab
      exact dx a ha (by simp [hb])
  · intro b hb
    rcases List.mem_cons.1 hb with rfl | hb
    · exact .inl (by simp)
    · rcases List.mem_append.1 hb with h | h
      · exact .inr h
      · exact .inl (by simp [h])

/-- a key goes, and its thing. -/
theorem MapBig.delete_hit (hR : Loc (fun x : (κ × ν) × Value => R x.1.2 x.2)) (K : Keyed P kt) (ht : P.underlying t = some (.map kt e)) {M1 M2 : List (κ × ν)} {k : κ} {x : ν} (h : MapBig P kt kv R bm (M1 ++ (k, x) :: M2) w F) (hn : F.Nodup) {l : Lit} (hk : keyOf P kt (kv k) = some l) (kt' ty : TypeId) :
    ∃ o, (Builtin.delete_ #[t, kt'] ty #[.map (some bm), kv k]).run P w = .ok (.tuple #[]) (setBlock w bm o) ∧ ∃ F', MapBig P kt kv R bm (M1 ++ M2) (setBlock w bm o) F' ∧ F'.Nodup ∧ (∀ b ∈ F', b ∈ F) := by
  obtain ⟨L, G, hL, hm, hb, rfl⟩ := h
  obtain ⟨L1, L2', rfl, hL1, hL2⟩ := List.map_eq_append_iff.1 hL
  obtain ⟨y, L2, rfl, hy, rfl⟩ := List.map_eq_cons_iff.1 hL2
  subst hL1
  obtain ⟨⟨k', x''⟩, v⟩ := y
  obtain ⟨rfl, rfl⟩ := Prod.mk.inj hy
  rw [List.nodup_cons] at hn
  obtain ⟨o, hrun, hm'⟩ := hm.delete_hit (L0 := (L1 ++ L2).map fun x => (kv x.1.1, x.2)) K ht hk (v0 := v) (by simp only [List.map_append, List.map_cons]; exact List.perm_middle) kt' ty
  obtain ⟨Fx, F', hx, hb', n', s', _⟩ := Big.without hR hb hn.2
  have hk1 : ∀ b, b ≠ bm → (setBlock w bm o).heap[b]? = w.heap[b]? := fun b hb => setBlock_other w o (Ne.symm hb)
  refine ⟨o, hrun, bm :: F', ⟨L1 ++ L2, F', by simp, hm', (Big.loc hR).keep hb' (fun b hb => hk1 b (by rintro rfl; exact hn.1 (s' b hb).1)), rfl⟩, ?_, ?_⟩
  · rw [List.nodup_cons]
    exact ⟨fun h => hn.1 (s' bm h).1, n'⟩
  · intro b hb
    rcases List.mem_cons.1 hb with rfl | hb
    · simp
    · simp [(s' b hb).1]

theorem MapBig.delete_miss (hR : Loc (fun x : (κ × ν) × Value => R x.1.2 x.2)) (K : Keyed P kt) (ht : P.underlying t = some (.map kt e)) (h : MapBig P kt kv R bm M w F) (hn : F.Nodup) {k : κ} {l : Lit} (hk : keyOf P kt (kv k) = some l) (hm : ∀ p ∈ M, kv p.1 ≠ kv k) (kt' ty : TypeId) :
    ∃ o, (Builtin.delete_ #[t, kt'] ty #[.map (some bm), kv k]).run P w = .ok (.tuple #[]) (setBlock w bm o) ∧ MapBig P kt kv R bm M (setBlock w bm o) F := by
  obtain ⟨L, G, rfl, hma, hb, rfl⟩ := h
  rw [List.nodup_cons] at hn
  obtain ⟨o, hrun, hma'⟩ := hma.delete_miss K ht hk (fun p hp => by
    obtain ⟨x, hx, rfl⟩ := List.mem_map.1 hp
    exact hm x.1 (List.mem_map.2 ⟨x, hx, rfl⟩)) kt' ty
  exact ⟨o, hrun, L, G, rfl, hma', (Big.loc hR).keep hb (fun b hb => setBlock_other w o (by rintro rfl; exact hn.1 hb)), rfl⟩
end
end Go.Proofs.YtdbhccehbjhbpaaGreatDoor

/- Laws at the operations, for the walk: what a run of a map's operation comes to is handed over as a fact. Nothing of the program. -/
namespace Go.Proofs.YtdbhccehbjhbpaaGreatDoor
open Go.RowKit

section
variable {P : Program} (w : World) {ops : Array Oper} {rest : List Oper} {o : Oper} {a : Act} {Q : Exit → Act → World → Prop}

theorem wpList_delete_ex (hg : o.guard = none) (m x : Operand) (t k : TypeId) (hop : o.op = Op.call { callee := Callee.builtin Builtin.delete, args := #[m, x], argTypes := #[t, k] })
    (mv key : Value) (hm : a.eval m = mv) (hx : a.eval x = key) (Post : World → Prop) (H : ∃ w', (∀ ty, (Builtin.delete_ #[t, k] ty #[mv, key]).run P w = .ok (.tuple #[]) w') ∧ Post w')
    (hK : ∀ w', Post w' → wpList P ops Q rest (a.put o.dst (.tuple #[])) w') : wpList P ops Q (o :: rest) a w := by
  refine wpList_plain hg fun K' hK' => ?_
  obtain ⟨w', hrun, hp⟩ := H
  unfold Oper.wp execOp
  simp only [hop, resolve, invoke, builtin, Sem.run_bind, Sem.run_pure, Result.andThen_ok, List.map_toArray, List.map_cons, List.map_nil, hm, hx, hrun]
  exact hK' _ _ (hK w' hp)

theorem wpList_mapUpdate_ex (hg : o.guard = none) (m x v : Operand) (t : TypeId) (hop : o.op = Op.mapUpdate t m x v)
    (mv key val : Value) (hm : a.eval m = mv) (hx : a.eval x = key) (hv : a.eval v = val) (Post : World → Prop) (H : ∃ w', (Instr.mapUpdate t mv key val).run P w = .ok () w' ∧ Post w')
    (hK : ∀ w', Post w' → wpList P ops Q rest (a.put o.dst undef) w') : wpList P ops Q (o :: rest) a w := by
  refine wpList_plain hg fun K' hK' => ?_
  obtain ⟨w', hrun, hp⟩ := H
  unfold Oper.wp
  simp [execOp, hop, hm, hx, hv, hrun, Result.andThen]
  exact hK' _ _ (hK w' hp)

theorem wpList_lookup_ex (hg : o.guard = none) (m x : Operand) (t : TypeId) (ok : Bool) (hop : o.op = Op.lookup t m x ok)
    (mv key : Value) (hm : a.eval m = mv) (hx : a.eval x = key) (r : Value) (H : (Instr.lookup t mv key ok).run P w = .ok r w)
    (hK : wpList P ops Q rest (a.put o.dst r) w) : wpList P ops Q (o :: rest) a w := by
  refine wpList_plain hg fun K' hK' => ?_
  unfold Oper.wp
  simp [execOp, hop, hm, hx, H, Result.andThen]
  exact hK' _ _ hK

theorem wpList_range_ex (hg : o.guard = none) (m : Operand) (t : TypeId) (hop : o.op = Op.range t m) (mv : Value) (hm : a.eval m = mv) (v : Value) (Post : World → Prop)
    (H : ∃ w', (Instr.range t mv).run P w = .ok v w' ∧ Post w') (hK : ∀ w', Post w' → wpList P ops Q rest (a.put o.dst v) w') : wpList P ops Q (o :: rest) a w := by
  refine wpList_plain hg fun K' hK' => ?_
  obtain ⟨w', hrun, hp⟩ := H
  unfold Oper.wp
  simp [execOp, hop, hm, hrun, Result.andThen]
  exact hK' _ _ (hK w' hp)

theorem wpList_next_ex (hg : o.guard = none) (it : Operand) (hop : o.op = Op.next it false) (iv : Value) (hit : a.eval it = iv) (A : Prop) (B : Value → Value → World → Prop)
    (H : ∀ ty, (A ∧ (Instr.next iv false ty).run P w = .ok (.tuple #[.bool false]) w) ∨ ∃ k v w', (Instr.next iv false ty).run P w = .ok (.tuple #[.bool true, k, v]) w' ∧ B k v w')
    (h0 : A → wpList P ops Q rest (a.put o.dst (.tuple #[.bool false])) w) (h1 : ∀ k v w', B k v w' → wpList P ops Q rest (a.put o.dst (.tuple #[.bool true, k, v])) w') : wpList P ops Q (o :: rest) a w := by
  refine wpList_plain hg fun K' hK' => ?_
  unfold Oper.wp
  rcases H o.type with ⟨hA, hrun⟩ | ⟨k, v, w', hrun, hB⟩
  · simp [execOp, hop, hit, hrun, Result.andThen]
    exact hK' _ _ (h0 hA)
  · simp [execOp, hop, hit, hrun, Result.andThen]
    exact hK' _ _ (h1 k v w' hB)
end

/-- The block of a new block of cells is no old one's. -/
theorem heap_allocs (w : World) {b : Nat} {x : Obj} (o : Obj) (h : w.heap[b]? = some x) : (w.alloc o).heap[b]? = w.heap[b]? := Below.heap_alloc w o b (lt_of_heap h)

end Go.Proofs.YtdbhccehbjhbpaaGreatDoor

/- What a law holds in memory: a list of things, each with a footprint, apart from each other, all new since the law began ('Held'). Nothing of the program. -/
namespace Go.Proofs.YtdbhccehbjhbpaaGreatDoor
open Go.RowKit

/-- A thing in memory. -/
structure Res where
  holds : World → List Nat → Prop
  keep : ∀ {w w' : World} {F : List Nat}, holds w F → (∀ b ∈ F, w'.heap[b]? = w.heap[b]?) → holds w' F
  lt : ∀ {w : World} {F : List Nat}, holds w F → ∀ b ∈ F, b < w.heap.size

theorem Res.loc : Loc (fun (R : Res) => R.holds) where
  keep := fun {R _ _ _} h hk => R.keep h hk
  lt := fun {R _ _} h => R.lt h

def Res.of {α : Type} {R : α → World → List Nat → Prop} (h : Loc R) (x : α) : Res := ⟨R x, fun h1 hk => h.keep h1 hk, fun h1 => h.lt h1⟩
def rOwn (e : TypeId) (v : Value) (xs : List Value) : Res := ⟨Own e 1 v xs.length xs, fun h hk => h.keep hk, fun h => h.lt⟩
def rBlk (b : Nat) (t : TypeId) (cs : Array Value) : Res := ⟨fun w F => Blk w b t cs ∧ F = [b], fun ⟨h, e⟩ hk => ⟨h.of_eq (hk b (by rw [e]; simp)), e⟩, fun {w F} ⟨h, e⟩ k hk => by rw [e] at hk; simp at hk; rw [hk]; exact h.lt⟩

structure Held (w0 w : World) (Rs : List Res) : Prop where
  big : ∃ F, Big (fun (R : Res) => R.holds) Rs w F ∧ F.Nodup ∧ ∀ b ∈ F, w0.heap.size ≤ b
  mod : Mod (fun _ => False) w0 w

theorem Held.begin (w0 : World) : Held w0 w0 [] := ⟨⟨[], rfl, by simp, by simp⟩, Mod.refl _ _⟩
theorem Held.below {w0 w : World} {Rs : List Res} (h : Held w0 w Rs) : Below w0.heap.size w0 w := h.mod.below (Nat.le_refl _) (fun _ _ h => h)
theorem Held.rd {w0 w : World} {Rs : List Res} (h : Held w0 w Rs) {v : Value} {xs : List Value} (hr : Rd (· < w0.heap.size) w0 v xs) : Rd (· < w0.heap.size) w v xs := hr.keep fun b hb _ => h.mod.block b hb (fun h => h)
theorem Held.perm {w0 w : World} {Rs Rs' : List Res} (h : Held w0 w Rs) (hp : Rs.Perm Rs') : Held w0 w Rs' := by
  obtain ⟨⟨F, hb, hn, hl⟩, hm⟩ := h
  obtain ⟨G, hG, hq⟩ := Big.perm hp hb
  exact ⟨⟨G, hG, (hq.nodup_iff).1 hn, fun b hb => hl b (hq.mem_iff.2 hb)⟩, hm⟩

/-- one of them is worked on. -/
theorem Held.use {w0 w : World} {l1 l2 : List Res} {R : Res} (h : Held w0 w (l1 ++ R :: l2)) :
    ∃ F, R.holds w F ∧ F.Nodup ∧ (∀ b ∈ F, w0.heap.size ≤ b) ∧ ∀ (w' : World) (R' : Res) (F' : List Nat), R'.holds w' F' → Upd w w' F F' → Held w0 w' (l1 ++ R' :: l2) := by
  obtain ⟨⟨G, hb, hn, hl⟩, hm⟩ := h
  obtain ⟨F, hR, nF, sF, hf⟩ := Big.focus Res.loc hb hn
  refine ⟨F, hR, nF, fun b hb => hl b (sF b hb), fun w' R' F' hR' hu => ?_⟩
  obtain ⟨G', hb', hu', _⟩ := hf w' R' F' hR' hu
  refine ⟨⟨G', hb', hu'.nodup, fun b hb => ?_⟩, hm.trans hu'.mod (fun b hb h1 => ?_)⟩
  · rcases hu'.sub b hb with h | h
    · exact hl b h
    · exact Nat.le_trans hm.size h
  · have := hl b h1
    omega

/-- something new. -/
theorem Held.more {w0 w w' : World} {Rs : List Res} (h : Held w0 w Rs) {R : Res} {F : List Nat} (hR : R.holds w' F) (hu : Upd w w' [] F) : Held w0 w' (R :: Rs) := by
  obtain ⟨⟨G, hb, hn, hl⟩, hm⟩ := h
  have hlt := (Big.loc Res.loc).lt hb
  obtain ⟨k1, k2⟩ := hu.other (G := G) (by simp) hlt
  refine ⟨⟨F ++ G, ⟨F, G, hR, (Big.loc Res.loc).keep hb k1, rfl⟩, ?_, fun b hb => ?_⟩, hm.trans hu.mod (fun b _ h1 => by cases h1)⟩
  · rw [List.nodup_append]
    exact ⟨hu.nodup, hn, fun a ha b hb e => by subst e; exact k2 a hb ha⟩
  · rcases List.mem_append.1 hb with h | h
    · exact Nat.le_trans hm.size ((hu.sub b h).resolve_left (by simp))
    · exact hl b h

/-- a step that turns nothing of it. -/
theorem Held.step {w0 w w' : World} {Rs : List Res} (h : Held w0 w Rs) (hm' : Mod (fun _ => False) w w') : Held w0 w' Rs := by
  obtain ⟨⟨G, hb, hn, hl⟩, hm⟩ := h
  exact ⟨⟨G, (Big.loc Res.loc).keep hb (fun b hb' => hm'.block b ((Big.loc Res.loc).lt hb b hb') (fun h => h)), hn, hl⟩, hm.trans hm' (fun _ _ h => h)⟩
theorem Held.drewN {w0 w : World} {Rs : List Res} (h : Held w0 w Rs) (n : Nat) : Held w0 (w.drewN n) Rs := h.step ((Mod.refl _ w).drewN n)
theorem Held.alloc {w0 w : World} {Rs : List Res} (h : Held w0 w Rs) (o : Obj) : Held w0 (w.alloc o) Rs := h.step ((Mod.refl _ w).alloc o)
theorem Held.block {w0 w : World} {Rs : List Res} (h : Held w0 w Rs) (t : TypeId) (cs : Array Value) : Held w0 (w.alloc (.cells cs t)) (rBlk w.heap.size t cs :: Rs) :=
  h.more (F := [w.heap.size]) ⟨Blk.new w t cs, rfl⟩ ⟨(Mod.refl _ w).alloc _, by simp, fun b hb => .inr (by simp at hb; omega)⟩

/-- two of them, the second used up, and only the first is worked on: one that is worked on leaves a second thing behind. -/
theorem Held.use2 {w0 w : World} {l1 l2 : List Res} {R : Res} (h : Held w0 w (l1 ++ R :: l2)) :
    ∃ F, R.holds w F ∧ F.Nodup ∧ (∀ b ∈ F, w0.heap.size ≤ b) ∧ ∀ (w' : World) (R' R'' : Res) (F' F'' : List Nat), R'.holds w' F' → R''.holds w' F'' → Upd w w' F (F'' ++ F') → Held w0 w' (l1 ++ R'' :: R' :: l2) := by
  obtain ⟨F, hR, nF, lF, hf⟩ := h.use
  refine ⟨F, hR, nF, lF, fun w' R' R'' F' F'' hR' hR'' hu => ?_⟩
  let Rb : Res := ⟨fun w G => ∃ G1 G2, R''.holds w G1 ∧ R'.holds w G2 ∧ G = G1 ++ G2, fun ⟨G1, G2, h1, h2, e⟩ hk => ⟨G1, G2, R''.keep h1 (fun b hb => hk b (by rw [e]; simp [hb])), R'.keep h2 (fun b hb => hk b (by rw [e]; simp [hb])), e⟩,
    fun {w G} ⟨G1, G2, h1, h2, e⟩ b hb => by
      rw [e] at hb
      rcases List.mem_append.1 hb with h | h
      · exact R''.lt h1 b h
      · exact R'.lt h2 b h⟩
  obtain ⟨⟨G, hb, hn, hl⟩, hm⟩ := hf w' Rb (F'' ++ F') ⟨F'', F', hR'', hR', rfl⟩ hu
  obtain ⟨G1, G2, h1, ⟨Gb, G3, ⟨Ga, Gc, ha, hc, rfl⟩, h3, rfl⟩, rfl⟩ := Big.append.1 hb
  refine ⟨⟨_, Big.append.2 ⟨G1, Ga ++ (Gc ++ G3), h1, ⟨Ga, Gc ++ G3, ha, ⟨Gc, G3, hc, h3, rfl⟩, rfl⟩, rfl⟩, by simpa using hn, fun b hb => hl b (by simpa using hb)⟩, hm⟩

/-- one of them is looked at. -/
theorem Held.get {w0 w : World} {l1 l2 : List Res} {R : Res} (h : Held w0 w (l1 ++ R :: l2)) : ∃ F, R.holds w F := let ⟨F, hR, _⟩ := h.use; ⟨F, hR⟩


/-- one is let go. -/
theorem Held.drop {w0 w : World} {l1 l2 : List Res} {R : Res} (h : Held w0 w (l1 ++ R :: l2)) : Held w0 w (l1 ++ l2) := by
  obtain ⟨⟨G, hb, hn, hl⟩, hm⟩ := h
  obtain ⟨Fx, F', _, hb', hn', hs, _⟩ := Big.without Res.loc hb hn
  exact ⟨⟨F', hb', hn', fun b hb => hl b (hs b hb).1⟩, hm⟩
theorem Held.blk {w0 w : World} {l1 l2 : List Res} {b : Nat} {t : TypeId} {cs : Array Value} (h : Held w0 w (l1 ++ rBlk b t cs :: l2)) : Blk w b t cs := let ⟨_, hF⟩ := h.get; hF.1
theorem Held.store {w0 w : World} {l1 l2 : List Res} {b : Nat} {t : TypeId} {cs : Array Value} (h : Held w0 w (l1 ++ rBlk b t cs :: l2)) (i : Nat) (v : Value) : Held w0 (w.setCell ⟨b, i, none⟩ v) (l1 ++ rBlk b t (cs.setIfInBounds i v) :: l2) := by
  obtain ⟨F, ⟨hb, rfl⟩, nF, _, hback⟩ := h.use
  exact hback _ _ [b] ⟨hb.set i v, rfl⟩ ⟨(Mod.refl _ w).setCell (fun _ => by simp) _, by simp, fun _ h => .inl h⟩
theorem Held.own {w0 w w' : World} {l1 l2 : List Res} {e : TypeId} {v v' : Value} {xs ys : List Value} (h : Held w0 w (l1 ++ rOwn e v xs :: l2)) :
    ∃ F, Own e 1 v xs.length xs w F ∧ ∀ F', Own e 1 v' ys.length ys w' F' → Upd w w' F F' → Held w0 w' (l1 ++ rOwn e v' ys :: l2) := by
  obtain ⟨F, hR, _, _, hback⟩ := h.use
  exact ⟨F, hR, fun F' h1 h2 => hback _ (rOwn e v' ys) F' h1 h2⟩

/-- append onto one of them, for a walk: in a plain region, and in one that draws. -/
theorem wp_append_held {P : Program} {w0 w : World} {o : Oper} {a : Act} {K : Act → World → Prop} {Q : Exit → Act → World → Prop} (l1 l2 : List Res) (s x : Operand) (t : TypeId)
    (ho : o.op = .call { callee := .builtin .append, args := #[s, x], argTypes := #[t, t] })
    (e : TypeId) (i : TypeInfo) (z : Value) (bytes : Nat) (ht : P.underlying t = some (.slice e)) (hi : P.info? e = some i) (hz : i.zero = some z)
    (hsize : i.size = 1) (hby : i.bytes = bytes) (hzs : z.cells.size = 1)
    (v : Value) (xs : List Value) (hs : a.eval s = v) (hh : Held w0 w (l1 ++ rOwn e v xs :: l2))
    (S : Nat → Prop) (u : Value) (news : List Value) (hx : a.eval x = u) (hr : Rd S w u news) (h1 : ∀ x ∈ news, x.oneCell' = true)
    (hbytes : (xs.length + news.length) * bytes ≤ 140737488355328) (h63 : xs.length + news.length ≤ maxLen)
    (h : ∀ A c w', xs.length + news.length ≤ c → c ≤ maxLen → Held w0 w' (l1 ++ rOwn e (.slice A (xs.length + news.length) c) (xs ++ news) :: l2) → K (a.put o.dst (.slice A (xs.length + news.length) c)) w') : o.wp P a w K Q := by
  obtain ⟨F, hR, _, _, hback⟩ := hh.use
  refine wp_append_rd w s x t ho e i z bytes ht hi hz hsize hby hzs v xs.length xs F hs hR S u news hx hr h1 hbytes h63 fun v' w' F' h2 h3 => ?_
  obtain ⟨A, c, rfl, hc, hm, _⟩ := h2.rd
  have hl : (xs ++ news).length = xs.length + news.length := List.length_append
  rw [hl] at hc ⊢
  refine h A c w' hc hm ?_
  have := hback w' (rOwn e (.slice A (xs.length + news.length) c) (xs ++ news)) F' (by
    show Own e 1 _ (xs ++ news).length (xs ++ news) w' F'
    rw [hl] at h2 ⊢; exact h2) h3
  exact this

theorem wpList_append_held {P : Program} {w0 w : World} {ops : Array Oper} {rest : List Oper} {o : Oper} {a : Act} {Q : Exit → Act → World → Prop} (l1 l2 : List Res) (hgd : o.guard = none) (s x : Operand) (t : TypeId)
    (ho : o.op = .call { callee := .builtin .append, args := #[s, x], argTypes := #[t, t] })
    (e : TypeId) (i : TypeInfo) (z : Value) (bytes : Nat) (ht : P.underlying t = some (.slice e)) (hi : P.info? e = some i) (hz : i.zero = some z)
    (hsize : i.size = 1) (hby : i.bytes = bytes) (hzs : z.cells.size = 1)
    (v : Value) (xs : List Value) (hs : a.eval s = v) (hh : Held w0 w (l1 ++ rOwn e v xs :: l2))
    (S : Nat → Prop) (u : Value) (news : List Value) (hx : a.eval x = u) (hr : Rd S w u news) (h1 : ∀ x ∈ news, x.oneCell' = true)
    (hbytes : (xs.length + news.length) * bytes ≤ 140737488355328) (h63 : xs.length + news.length ≤ maxLen)
    (h : ∀ A c w', xs.length + news.length ≤ c → c ≤ maxLen → Held w0 w' (l1 ++ rOwn e (.slice A (xs.length + news.length) c) (xs ++ news) :: l2) → wpList P ops Q rest (a.put o.dst (.slice A (xs.length + news.length) c)) w') : wpList P ops Q (o :: rest) a w :=
  wpList_plain hgd fun _ hK => wp_append_held l1 l2 s x t ho e i z bytes ht hi hz hsize hby hzs v xs hs hh S u news hx hr h1 hbytes h63 fun A c w' h2 h3 h4 => hK _ _ (h A c w' h2 h3 h4)

theorem step_append_held {P : Program} {w0 w : World} {ops : Array Oper} {o : Oper} {a : Act} {K : Act → World → Prop} {Q : Exit → Act → World → Prop} {E : Prop} (l1 l2 : List Res) (hgd : o.guard = none) (s x : Operand) (t : TypeId)
    (ho : o.op = .call { callee := .builtin .append, args := #[s, x], argTypes := #[t, t] })
    (e : TypeId) (i : TypeInfo) (z : Value) (bytes : Nat) (ht : P.underlying t = some (.slice e)) (hi : P.info? e = some i) (hz : i.zero = some z)
    (hsize : i.size = 1) (hby : i.bytes = bytes) (hzs : z.cells.size = 1)
    (v : Value) (xs : List Value) (hs : a.eval s = v) (hh : Held w0 w (l1 ++ rOwn e v xs :: l2))
    (S : Nat → Prop) (u : Value) (news : List Value) (hx : a.eval x = u) (hr : Rd S w u news) (h1 : ∀ x ∈ news, x.oneCell' = true)
    (hbytes : (xs.length + news.length) * bytes ≤ 140737488355328) (h63 : xs.length + news.length ≤ maxLen)
    (h : ∀ A c w', xs.length + news.length ≤ c → c ≤ maxLen → Held w0 w' (l1 ++ rOwn e (.slice A (xs.length + news.length) c) (xs ++ news) :: l2) → K (a.put o.dst (.slice A (xs.length + news.length) c)) w') :
    if Region.wanted o (yielded ops a.tmps) = true then Oper.wp P o a w K Q else E := by
  have hw : Region.wanted o (yielded ops a.tmps) = true := by simp [Region.wanted, hgd]
  rw [if_pos hw]
  exact wp_append_held l1 l2 s x t ho e i z bytes ht hi hz hsize hby hzs v xs hs hh S u news hx hr h1 hbytes h63 h
end Go.Proofs.YtdbhccehbjhbpaaGreatDoor

/- Held things, opened and closed; rows of things as one held thing ('rBig'). Nothing of the program. -/
namespace Go.Proofs.YtdbhccehbjhbpaaGreatDoor
open Go.RowKit

section
variable {w0 w w' : World} {l1 l2 Rs : List Res}

/-- some of them are seen as others, over blocks of theirs. -/
theorem Held.turn {α : Type} {Rs' : α → List Res} {q : α → Prop} (h : Held w0 w (l1 ++ (Rs ++ l2)))
    (ho : ∀ F, Big (fun (R : Res) => R.holds) Rs w F → F.Nodup → ∃ a G, q a ∧ Big (fun (R : Res) => R.holds) (Rs' a) w G ∧ G.Nodup ∧ ∀ b ∈ G, b ∈ F) : ∃ a, q a ∧ Held w0 w (l1 ++ (Rs' a ++ l2)) := by
  obtain ⟨⟨F, hb, hn, hl⟩, hm⟩ := h
  obtain ⟨F1, F2, h1, h2, rfl⟩ := Big.append.1 hb
  obtain ⟨F3, F4, h3, h4, rfl⟩ := Big.append.1 h2
  rw [List.nodup_append] at hn
  obtain ⟨n1, n2, d⟩ := hn
  rw [List.nodup_append] at n2
  obtain ⟨n3, n4, d'⟩ := n2
  obtain ⟨a, G, hq, hG, nG, sG⟩ := ho F3 h3 n3
  refine ⟨a, hq, ⟨F1 ++ (G ++ F4), Big.append.2 ⟨F1, G ++ F4, h1, Big.append.2 ⟨G, F4, hG, h4, rfl⟩, rfl⟩, ?_, fun b hb => hl b ?_⟩, hm⟩
  · rw [List.nodup_append]
    refine ⟨n1, ?_, fun x hx y hy e => ?_⟩
    · rw [List.nodup_append]
      exact ⟨nG, n4, fun x hx y hy e => d' x (sG x hx) y hy e⟩
    · rcases List.mem_append.1 hy with hy | hy
      · exact d x hx y (by simp [sG y hy]) e
      · exact d x hx y (by simp [hy]) e
  · rcases List.mem_append.1 hb with hb | hb
    · simp [hb]
    · rcases List.mem_append.1 hb with hb | hb
      · simp [sG b hb]
      · simp [hb]

theorem Held.turn1 {Rs' : List Res} (h : Held w0 w (l1 ++ (Rs ++ l2)))
    (ho : ∀ F, Big (fun (R : Res) => R.holds) Rs w F → F.Nodup → ∃ G, Big (fun (R : Res) => R.holds) Rs' w G ∧ G.Nodup ∧ ∀ b ∈ G, b ∈ F) : Held w0 w (l1 ++ (Rs' ++ l2)) := by
  obtain ⟨_, _, h'⟩ := Held.turn (α := Unit) (q := fun _ => True) (Rs' := fun _ => Rs') h (fun F h1 h2 => by obtain ⟨G, h3, h4, h5⟩ := ho F h1 h2; exact ⟨(), G, trivial, h3, h4, h5⟩)
  exact h'

/-- a thing that is a list of things. -/
def rAll (Rs : List Res) : Res := ⟨Big (fun (R : Res) => R.holds) Rs, fun h hk => (Big.loc Res.loc).keep h hk, fun h => (Big.loc Res.loc).lt h⟩
/-- a thing that is a list of things, for some a. -/
def rSome {α : Type} (q : α → Prop) (Rs : α → List Res) : Res :=
  ⟨fun w F => ∃ a, q a ∧ Big (fun (R : Res) => R.holds) (Rs a) w F, fun ⟨a, hq, h⟩ hk => ⟨a, hq, (Big.loc Res.loc).keep h hk⟩, fun ⟨_, _, h⟩ => (Big.loc Res.loc).lt h⟩

theorem Held.open_some {α : Type} {q : α → Prop} {Rs' : α → List Res} (h : Held w0 w (l1 ++ rSome q Rs' :: l2)) : ∃ a, q a ∧ Held w0 w (l1 ++ (Rs' a ++ l2)) :=
  Held.turn (Rs := [rSome q Rs']) h fun F hF nF => by
    obtain ⟨F1, F2, ⟨a, hq, h1⟩, h2, rfl⟩ := hF
    have h2' : F2 = [] := h2
    subst h2'
    rw [List.append_nil] at nF ⊢
    exact ⟨a, F1, hq, h1, nF, fun _ h => h⟩
theorem Held.close_some {α : Type} {q : α → Prop} {Rs' : α → List Res} (a : α) (hq : q a) (h : Held w0 w (l1 ++ (Rs' a ++ l2))) : Held w0 w (l1 ++ rSome q Rs' :: l2) :=
  Held.turn1 (Rs := Rs' a) (Rs' := [rSome q Rs']) h fun F hF nF => ⟨F, ⟨F, [], ⟨a, hq, hF⟩, rfl, by simp⟩, nF, fun _ h => h⟩

/-! ### rows of things -/
variable {α : Type} {R : α → World → List Nat → Prop} (hR : Loc R)
def rBig (l : List α) : Res := Res.of (Big.loc hR) l

theorem Held.big_split {l m : List α} (h : Held w0 w (l1 ++ rBig hR (l ++ m) :: l2)) : Held w0 w (l1 ++ rBig hR l :: rBig hR m :: l2) :=
  Held.turn1 (Rs := [rBig hR (l ++ m)]) (Rs' := [rBig hR l, rBig hR m]) h fun F hF nF => by
    obtain ⟨F1, F2, h1, h2, rfl⟩ := hF
    have h2' : F2 = [] := h2
    subst h2'
    obtain ⟨G1, G2, g1, g2, rfl⟩ := Big.append.1 (show Big R (l ++ m) w F1 from h1)
    exact ⟨G1 ++ (G2 ++ []), ⟨G1, G2 ++ [], g1, ⟨G2, [], g2, rfl, rfl⟩, rfl⟩, by simpa using nF, fun b hb => by simpa using hb⟩
theorem Held.big_join {l m : List α} (h : Held w0 w (l1 ++ rBig hR l :: rBig hR m :: l2)) : Held w0 w (l1 ++ rBig hR (l ++ m) :: l2) :=
  Held.turn1 (Rs := [rBig hR l, rBig hR m]) (Rs' := [rBig hR (l ++ m)]) h fun F hF nF => by
    obtain ⟨F1, F2, h1, ⟨F3, F4, h3, h4, rfl⟩, rfl⟩ := hF
    have h4' : F4 = [] := h4
    subst h4'
    exact ⟨(F1 ++ F3) ++ [], ⟨F1 ++ F3, [], Big.append.2 ⟨F1, F3, h1, h3, rfl⟩, rfl, rfl⟩, by simpa using nF, fun b hb => by simpa using hb⟩
theorem Held.big_uncons {x : α} {l : List α} (h : Held w0 w (l1 ++ rBig hR (x :: l) :: l2)) : Held w0 w (l1 ++ Res.of hR x :: rBig hR l :: l2) :=
  Held.turn1 (Rs := [rBig hR (x :: l)]) (Rs' := [Res.of hR x, rBig hR l]) h fun F hF nF => by
    obtain ⟨F1, F2, ⟨G1, G2, g1, g2, rfl⟩, h2, rfl⟩ := hF
    have h2' : F2 = [] := h2
    subst h2'
    exact ⟨G1 ++ (G2 ++ []), ⟨G1, G2 ++ [], g1, ⟨G2, [], g2, rfl, rfl⟩, rfl⟩, by simpa using nF, fun b hb => by simpa using hb⟩
theorem Held.big_cons {x : α} {l : List α} (h : Held w0 w (l1 ++ Res.of hR x :: rBig hR l :: l2)) : Held w0 w (l1 ++ rBig hR (x :: l) :: l2) :=
  Held.turn1 (Rs := [Res.of hR x, rBig hR l]) (Rs' := [rBig hR (x :: l)]) h fun F hF nF => by
    obtain ⟨F1, F2, h1, ⟨F3, F4, h3, h4, rfl⟩, rfl⟩ := hF
    have h4' : F4 = [] := h4
    subst h4'
    exact ⟨(F1 ++ F3) ++ [], ⟨F1 ++ F3, [], ⟨F1, F3, h1, h3, rfl⟩, rfl, rfl⟩, by simpa using nF, fun b hb => by simpa using hb⟩
theorem Held.big_nil (h : Held w0 w Rs) : Held w0 w (rBig hR [] :: Rs) :=
  Held.turn1 (l1 := []) (Rs := []) (Rs' := [rBig hR []]) (l2 := Rs) h fun F hF nF => ⟨F, ⟨[], F, rfl, hF, rfl⟩, nF, fun _ h => h⟩

theorem Big.sub {l m : List α} (hs : m.Sublist l) : ∀ {F : List Nat}, Big R l w F → F.Nodup → ∃ G, Big R m w G ∧ G.Nodup ∧ ∀ b ∈ G, b ∈ F := by
  induction hs with
  | slnil => intro F h hn; exact ⟨F, h, hn, fun _ h => h⟩
  | cons a _ ih =>
    rintro F ⟨F1, F2, h1, h2, rfl⟩ hn
    obtain ⟨G, hG, nG, sG⟩ := ih h2 (List.nodup_append.1 hn).2.1
    exact ⟨G, hG, nG, fun b hb => by simp [sG b hb]⟩
  | cons_cons a _ ih =>
    rintro F ⟨F1, F2, h1, h2, rfl⟩ hn
    obtain ⟨n1, n2, d⟩ := List.nodup_append.1 hn
    obtain ⟨G, hG, nG, sG⟩ := ih h2 n2
    refine ⟨F1 ++ G, ⟨F1, G, h1, hG, rfl⟩, List.nodup_append.2 ⟨n1, nG, fun x hx y hy e => d x hx y (sG y hy) e⟩, fun b hb => ?_⟩
    rcases List.mem_append.1 hb with h | h
    · simp [h]
    · simp [sG b h]
theorem Held.big_sub {l m : List α} (hs : m.Sublist l) (h : Held w0 w (l1 ++ rBig hR l :: l2)) : Held w0 w (l1 ++ rBig hR m :: l2) :=
  Held.turn1 (Rs := [rBig hR l]) (Rs' := [rBig hR m]) h fun F hF nF => by
    obtain ⟨F1, F2, h1, h2, rfl⟩ := hF
    have h2' : F2 = [] := h2
    subst h2'
    rw [List.append_nil] at nF
    obtain ⟨G, hG, nG, sG⟩ := Big.sub hs (show Big R l w F1 from h1) nF
    exact ⟨G ++ [], ⟨G, [], hG, rfl, rfl⟩, by simpa using nG, fun b hb => by simpa using sG b (by simpa using hb)⟩
end

theorem Held.own_rd {w0 w : World} {l1 l2 : List Res} {e : TypeId} {v : Value} {xs : List Value} (h : Held w0 w (l1 ++ rOwn e v xs :: l2)) : Rd (fun _ => True) w v xs := by
  obtain ⟨F, hF⟩ := h.get
  exact (show Own e 1 v xs.length xs w F from hF).rd.mono (fun _ _ _ => trivial)
theorem Held.own_form {w0 w : World} {l1 l2 : List Res} {e : TypeId} {v : Value} {xs : List Value} (h : Held w0 w (l1 ++ rOwn e v xs :: l2)) : ∃ A c, v = .slice A xs.length c := by
  obtain ⟨F, hF⟩ := h.get
  exact (show Own e 1 v xs.length xs w F from hF).form
/-- the nil row. -/
theorem Held.nil_own {w0 w : World} {Rs : List Res} (h : Held w0 w Rs) (e : TypeId) : Held w0 w (rOwn e (.slice none 0 0) [] :: Rs) :=
  h.more (F := []) (Own.nil _ _ _) (Upd.refl _ (by simp))
end Go.Proofs.YtdbhccehbjhbpaaGreatDoor

/- Maps among held things: the map's block by itself ('rMapB'), its elements beside it; ranges; rows of structs. Nothing of the program. -/
namespace Go.Proofs.YtdbhccehbjhbpaaGreatDoor
open Go.RowKit
open Go.ChangeMaps (setBlock)
open Go.Maps (Keyed)

def rMapB (P : Program) (kt : TypeId) (bm : Nat) (L : List (Value × Value)) : Res :=
  ⟨fun w F => MapAt P kt w bm L ∧ F = [bm], fun ⟨h, e⟩ hk => ⟨h.keep (hk bm (by rw [e]; simp)), e⟩, fun {w F} ⟨h, e⟩ k hk => by rw [e] at hk; simp at hk; rw [hk]; exact h.lt⟩
def rIter (P : Program) (kt : TypeId) (r bm : Nat) (L todo : List (Value × Value)) : Res :=
  ⟨fun w F => IterAt P kt w r bm L todo ∧ F = [bm, r], fun ⟨h, e⟩ hk => ⟨h.keep (hk bm (by rw [e]; simp)) (hk r (by rw [e]; simp)), e⟩, fun {w F} ⟨h, e⟩ k hk => by
    rw [e] at hk
    simp at hk
    rcases hk with rfl | rfl
    · exact h.map.lt
    · exact h.lt⟩

section
variable {w0 w : World} {A B : List Res} {P : Program} {kt t e : TypeId} {bm : Nat} {L L' L0 todo : List (Value × Value)}

theorem Held.mapAt (h : Held w0 w (A ++ rMapB P kt bm L :: B)) : MapAt P kt w bm L := let ⟨_, hF⟩ := h.get; hF.1
theorem Held.map_perm (h : Held w0 w (A ++ rMapB P kt bm L :: B)) (hp : L.Perm L') : Held w0 w (A ++ rMapB P kt bm L' :: B) := by
  obtain ⟨F, ⟨hm, rfl⟩, nF, _, hb⟩ := h.use
  exact hb w _ [bm] ⟨hm.perm hp, rfl⟩ (Upd.refl _ nF)

theorem Held.setBlock (h : Held w0 w (A ++ rMapB P kt bm L :: B)) {o : Obj} (hm : MapAt P kt (setBlock w bm o) bm L') : Held w0 (setBlock w bm o) (A ++ rMapB P kt bm L' :: B) := by
  obtain ⟨F, ⟨_, rfl⟩, nF, _, hb⟩ := h.use
  exact hb _ _ [bm] ⟨hm, rfl⟩ ⟨(Mod.refl _ w).setBlock (fun _ => by simp) _, by simp, fun _ h => .inl h⟩

theorem Held.map_made {Rs : List Res} (h : Held w0 w Rs) (P : Program) (kt : TypeId) : Held w0 (w.alloc (.map #[] 0)) (rMapB P kt w.heap.size [] :: Rs) :=
  h.more (F := [w.heap.size]) ⟨MapAt.made P kt w, rfl⟩ ⟨(Mod.refl _ w).alloc _, by simp, fun b hb => .inr (by simp at hb; omega)⟩

theorem Held.map_new (K : Keyed P kt) (ht : P.underlying t = some (.map kt e)) (h : Held w0 w (A ++ rMapB P kt bm L :: B)) {k : Value} {l : Lit} (hk : keyOf P kt k = some l) (hm : ∀ p ∈ L, p.1 ≠ k) (v : Value) :
    ∃ w', (Instr.mapUpdate t (.map (some bm)) k v).run P w = .ok () w' ∧ Held w0 w' (A ++ rMapB P kt bm ((k, v) :: L) :: B) := by
  obtain ⟨o, hrun, hm'⟩ := h.mapAt.store_new K ht hk hm v
  exact ⟨_, hrun, h.setBlock hm'⟩
theorem Held.map_old (K : Keyed P kt) (ht : P.underlying t = some (.map kt e)) (h : Held w0 w (A ++ rMapB P kt bm L :: B)) {k v0 : Value} {l : Lit} (hk : keyOf P kt k = some l) (hp : L.Perm ((k, v0) :: L0)) (v : Value) :
    ∃ w', (Instr.mapUpdate t (.map (some bm)) k v).run P w = .ok () w' ∧ Held w0 w' (A ++ rMapB P kt bm ((k, v) :: L0) :: B) := by
  obtain ⟨o, hrun, hm'⟩ := h.mapAt.store_old K ht hk hp v
  exact ⟨_, hrun, h.setBlock hm'⟩
theorem Held.map_del (K : Keyed P kt) (ht : P.underlying t = some (.map kt e)) (h : Held w0 w (A ++ rMapB P kt bm L :: B)) {k v0 : Value} {l : Lit} (hk : keyOf P kt k = some l) (hp : L.Perm ((k, v0) :: L0)) (kt' : TypeId) :
    ∃ w', (∀ ty, (Builtin.delete_ #[t, kt'] ty #[.map (some bm), k]).run P w = .ok (.tuple #[]) w') ∧ Held w0 w' (A ++ rMapB P kt bm L0 :: B) := by
  obtain ⟨o, hrun, hm'⟩ := h.mapAt.delete_hit K ht hk hp kt' 0
  exact ⟨_, fun ty => hrun, h.setBlock hm'⟩
theorem Held.map_nodel (K : Keyed P kt) (ht : P.underlying t = some (.map kt e)) (h : Held w0 w (A ++ rMapB P kt bm L :: B)) {k : Value} {l : Lit} (hk : keyOf P kt k = some l) (hm : ∀ p ∈ L, p.1 ≠ k) (kt' : TypeId) :
    ∃ w', (∀ ty, (Builtin.delete_ #[t, kt'] ty #[.map (some bm), k]).run P w = .ok (.tuple #[]) w') ∧ Held w0 w' (A ++ rMapB P kt bm L :: B) := by
  obtain ⟨o, hrun, hm'⟩ := h.mapAt.delete_miss K ht hk hm kt' 0
  exact ⟨_, fun ty => hrun, h.setBlock hm'⟩

theorem MapAt.run_clear (ht : P.underlying t = some (.map kt e)) (h : MapAt P kt w bm L) (ty : TypeId) :
    ∃ o, (Builtin.clear_ #[t] ty #[.map (some bm)]).run P w = .ok (.tuple #[]) (setBlock w bm o) ∧ MapAt P kt (setBlock w bm o) bm [] := by
  have hlt := h.lt
  obtain ⟨es, clk, hb, hi⟩ := h
  refine ⟨.map #[] clk, ?_, #[], clk, setBlock_at w _ hlt, ⟨by simp, by simp, by simp, by simp, by simp [entL]⟩⟩
  simp [Builtin.clear_, run_underlying ht, MapKept.run_getObj_map hb, MapKept.run_setObj_map _ hb, Result.andThen, setBlock]
theorem Held.map_clear (ht : P.underlying t = some (.map kt e)) (h : Held w0 w (A ++ rMapB P kt bm L :: B)) :
    ∃ w', (∀ ty, (Builtin.clear_ #[t] ty #[.map (some bm)]).run P w = .ok (.tuple #[]) w') ∧ Held w0 w' (A ++ rMapB P kt bm [] :: B) := by
  obtain ⟨o, hrun, hm'⟩ := h.mapAt.run_clear ht 0
  exact ⟨_, fun ty => hrun, h.setBlock hm'⟩

/-! ### ranges -/
theorem Held.iterAt {r : Nat} (h : Held w0 w (A ++ rIter P kt r bm L todo :: B)) : IterAt P kt w r bm L todo := let ⟨_, hF⟩ := h.get; hF.1
theorem Held.range (ht : P.underlying t = some (.map kt e)) (h : Held w0 w (A ++ rMapB P kt bm L :: B)) :
    ∃ w', (Instr.range t (.map (some bm))).run P w = .ok (.pointer (some ⟨w.heap.size, 0, none⟩)) w' ∧ Held w0 w' (A ++ rIter P kt w.heap.size bm L L :: B) := by
  obtain ⟨o, hrun, hi⟩ := h.mapAt.run_range ht
  obtain ⟨F, ⟨hm, rfl⟩, nF, _, hb⟩ := h.use
  refine ⟨_, hrun, hb _ _ [bm, w.heap.size] ⟨hi, rfl⟩ ⟨(Mod.refl _ w).alloc _, ?_, fun b hb => ?_⟩⟩
  · have := hm.lt
    simp; omega
  · simp at hb
    rcases hb with rfl | rfl
    · exact .inl (by simp)
    · exact .inr (Nat.le_refl _)
theorem Held.next {r : Nat} (h : Held w0 w (A ++ rIter P kt r bm L todo :: B)) (ty : TypeId) :
    (todo = [] ∧ (Instr.next (.pointer (some ⟨r, 0, none⟩)) false ty).run P w = .ok (.tuple #[.bool false]) w) ∨
    ∃ k v w', (Instr.next (.pointer (some ⟨r, 0, none⟩)) false ty).run P w = .ok (.tuple #[.bool true, k, v]) w' ∧ ∃ todo', todo.Perm ((k, v) :: todo') ∧ (k, v) ∈ L ∧ (Instr.entry (.pointer (some ⟨r, 0, none⟩))).run P w' = .ok (.tuple #[k, v]) w' ∧ Held w0 w' (A ++ rIter P kt r bm L todo' :: B) := by
  rcases h.iterAt.run_next ty with ⟨h1, h2⟩ | ⟨k, v, todo', w', h1, h2, h3, h4, h5, h6, h7⟩
  · exact .inl ⟨h1, h2⟩
  · refine .inr ⟨k, v, w', h3, todo', h1, h2, h7, ?_⟩
    obtain ⟨F, ⟨hm, rfl⟩, nF, _, hb⟩ := h.use
    exact hb _ _ [bm, r] ⟨h4, rfl⟩ ⟨h5.mono (fun b _ hb => by simp [hb]), nF, fun _ h => .inl h⟩
theorem Held.range_end {r : Nat} (h : Held w0 w (A ++ rIter P kt r bm L todo :: B)) : Held w0 w (A ++ rMapB P kt bm L :: B) :=
  Held.turn1 (Rs := [rIter P kt r bm L todo]) (Rs' := [rMapB P kt bm L]) h fun F hF nF => by
    obtain ⟨F1, F2, ⟨h1, rfl⟩, h2, rfl⟩ := hF
    exact ⟨[bm] ++ [], ⟨[bm], [], ⟨h1.map, rfl⟩, rfl, rfl⟩, by simp, fun b hb => by simp at hb; simp [hb]⟩

/-- a key of the map goes that has come already. -/
theorem IterAt.delete (K : Keyed P kt) (ht : P.underlying t = some (.map kt e)) {r : Nat} (h : IterAt P kt w r bm L todo) {k v0 : Value} {l : Lit} (hk : keyOf P kt k = some l) (hp : L.Perm ((k, v0) :: L0)) (hd : ∀ p ∈ todo, p.1 ≠ k) (kt' ty : TypeId) :
    ∃ o, (Builtin.delete_ #[t, kt'] ty #[.map (some bm), k]).run P w = .ok (.tuple #[]) (setBlock w bm o) ∧ IterAt P kt (setBlock w bm o) r bm L0 todo := by
  have hne := h.ne
  have hlt := h.map.lt
  have hn := h.map.nodup
  obtain ⟨es, clk, since, seen, c0, hb, hr, hi, hl, ho, hs, hsc⟩ := h
  have hmem : (k, v0) ∈ L := hp.mem_iff.2 (by simp)
  rcases hi.find K w hk with ⟨_, h2⟩ | ⟨j, e0, h1, h2, h3, h4⟩
  · exact absurd rfl (h2 _ hmem)
  · have hv0 : v0 = e0.val := uniq_val hn hmem h4
    have hel : (es.eraseIdxIfInBounds j).toList = es.toList.eraseIdx j := by
      unfold Array.eraseIdxIfInBounds
      split
      · simp
      · rename_i hj
        rw [List.eraseIdx_of_length_le (by simpa using hj)]
    have hseen : seen.contains e0.born = true := by
      by_cases hc : seen.contains e0.born = true
      · exact hc
      · exfalso
        have hm0 : e0 ∈ es.toList := List.mem_of_getElem? h2
        have : (e0.key, e0.val) ∈ todo := hl.mem_iff.1 (List.mem_map.2 ⟨e0, by rw [toList_leftOf]; exact List.mem_filter.2 ⟨hm0, by simpa using hc⟩, rfl⟩)
        exact hd _ this h3
    refine ⟨.map (es.eraseIdxIfInBounds j) clk, ?_, es.eraseIdxIfInBounds j, clk, since, seen, c0, setBlock_at w _ hlt, by rw [setBlock_other w _ (Ne.symm hne)]; exact hr, hi.erase h2 (by rw [h3, ← hv0]; exact hp), ?_, fun x hx => ho x (by rw [hel] at hx; exact (List.eraseIdx_sublist _ _).subset hx), hs, hsc⟩
    · simp [Builtin.delete_, run_underlying ht, MapKept.run_getObj_map hb, K.check w _ hk, h1, MapKept.run_setObj_map _ hb, Result.andThen, setBlock]
    · refine List.Perm.trans (.of_eq ?_) hl
      unfold entL
      rw [toList_leftOf, toList_leftOf, hel]
      congr 1
      have hj : j < es.toList.length := (List.getElem?_eq_some_iff.1 h2).1
      have hx : es.toList[j] = e0 := (List.getElem?_eq_some_iff.1 h2).2
      conv => rhs; rw [← List.take_append_drop j es.toList, List.drop_eq_getElem_cons hj, hx]
      rw [List.eraseIdx_eq_take_drop_succ, List.filter_append, List.filter_append, List.filter_cons, hseen]
      simp
theorem Held.iter_del (K : Keyed P kt) (ht : P.underlying t = some (.map kt e)) {r : Nat} (h : Held w0 w (A ++ rIter P kt r bm L todo :: B)) {k v0 : Value} {l : Lit} (hk : keyOf P kt k = some l) (hp : L.Perm ((k, v0) :: L0)) (hd : ∀ p ∈ todo, p.1 ≠ k) (kt' : TypeId) :
    ∃ w', (∀ ty, (Builtin.delete_ #[t, kt'] ty #[.map (some bm), k]).run P w = .ok (.tuple #[]) w') ∧ Held w0 w' (A ++ rIter P kt r bm L0 todo :: B) := by
  obtain ⟨o, hrun, hi⟩ := h.iterAt.delete K ht hk hp hd kt' 0
  obtain ⟨F, ⟨_, rfl⟩, nF, _, hb⟩ := h.use
  exact ⟨_, fun ty => hrun, hb _ _ [bm, r] ⟨hi, rfl⟩ ⟨(Mod.refl _ w).setBlock (fun _ => by simp) _, nF, fun _ h => .inl h⟩⟩
end

/-! ### rows of structs, k cells each -/
def rRows (k : Nat) (e : TypeId) (v : Value) (rows : List (List Value)) : Res :=
  ⟨fun w F => (∀ r ∈ rows, r.length = k) ∧ Own e k v rows.length rows.flatten w F, fun ⟨h0, h⟩ hk => ⟨h0, h.keep hk⟩, fun ⟨_, h⟩ => h.lt⟩
end Go.Proofs.YtdbhccehbjhbpaaGreatDoor

/- make and copy, for a walk, over held rows of one-cell elements. Nothing of the program. -/
namespace Go.Proofs.YtdbhccehbjhbpaaGreatDoor
open Go.RowKit

section
variable {P : Program} {w0 w : World} {ops : Array Oper} {rest : List Oper} {o : Oper} {a : Act} {Q : Exit → Act → World → Prop} {Rs l1 l2 : List Res}

theorem wpList_make_held (hg : o.guard = none) (l c : Operand) (t : TypeId) (hop : o.op = Op.makeSlice t l c)
    (e : TypeId) (i : TypeInfo) (z : Value) (bytes : Nat) (ht : P.underlying t = some (.slice e)) (hi : P.info? e = some i) (hz : i.zero = some z) (hsize : i.size = 1) (hby : i.bytes = bytes) (hz1 : z.cells = #[z])
    (hh : Held w0 w Rs) (kl kc : IntKind) (n : Nat) (hl : a.eval l = .int kl (n : Int)) (hc : a.eval c = .int kc (n : Int)) (hbytes : bytes * n ≤ 281474976710656) (h63 : n ≤ maxLen)
    (hK : ∀ w' A, Held w0 w' (rOwn e (.slice A n n) (List.replicate n z) :: Rs) → wpList P ops Q rest (a.put o.dst (.slice A n n)) w') :
    wpList P ops Q (o :: rest) a w := by
  refine wpList_make_full w hg l c t hop 0 e i z 1 ht hi hz hsize kl kc n n n hl hc rfl rfl (by rw [hby]; exact hbytes) h63 (Nat.zero_le _) fun w' h1 h2 => ?_
  refine hK w' _ (hh.more (F := [w.heap.size]) ?_ ⟨Mod.of_grownBy h2 (fun k hk _ => by cases hk), by simp, fun b hb => .inr (by simp at hb; omega)⟩)
  refine ⟨?_, rfl⟩
  have h3 : (madeCells z.cells (n * 1)).toList = List.replicate n z := by
    rw [hz1, Nat.mul_one]
    apply List.ext_getElem
    · simp [madeCells]
    · intro k h4 h5
      simp [madeCells, Nat.mod_one]
  rw [h3] at h1
  simpa using h1

theorem wp_copy_held {K : Act → World → Prop} (d s : Operand) (dT sT : TypeId) (ho : o.op = .call { callee := .builtin .copy, args := #[d, s], argTypes := #[dT, sT] })
    (e : TypeId) (hu : P.underlying dT = some (.slice e)) (hsz : (P.info? e).map (·.size) = some 1)
    (v : Value) (xs : List Value) (hh : Held w0 w (l1 ++ rOwn e v xs :: l2))
    (dp sp : Option Addr) (dLen dCap sLen sCap : Nat) (hd : a.eval d = .slice dp dLen dCap) (hs : a.eval s = .slice sp sLen sCap) (off : Nat) (cs : List Value) (hn : cs.length = Nat.min sLen dLen)
    (hpos : 0 < cs.length → (∀ (g n c : Nat), v = .slice (some ⟨g, 0, none⟩) n c → dp = some ⟨g, off, none⟩) ∧ ∃ ad, sp = some ad ∧ ∀ j v, cs[j]? = some v → w.cell? (ad.add j) = some v)
    (hfit : off + cs.length ≤ xs.length) (h1 : ∀ v ∈ cs, v.oneCell' = true)
    (h : ∀ w', Held w0 w' (l1 ++ rOwn e v (splice xs off cs) :: l2) → K (a.put o.dst (goInt cs.length)) w') :
    o.wp P a w K Q := by
  by_cases h0 : cs.length = 0
  · obtain rfl : cs = [] := List.eq_nil_of_length_eq_zero h0
    have hrun := run_copy_none (P := P) w dT sT o.type e dp sp dLen dCap sLen sCap hu hsz (by simpa using hn.symm)
    unfold Oper.wp
    simp [execOp, ho, resolve, invoke, builtin, hd, hs, hrun, Result.andThen]
    exact h w (by simpa [splice] using hh)
  · obtain ⟨F, hF, nF, lF, hb⟩ := hh.use
    obtain ⟨hown, hFe⟩ : Own e 1 v xs.length xs w F := hF
    obtain ⟨hlen, hrow⟩ := hown
    rcases hrow with ⟨rfl, hz⟩ | ⟨g, cap, cur, rfl, -, hgb, r1, r2, r3, r4⟩
    · exfalso; omega
    · obtain ⟨hdp, ad, rfl, hsrc⟩ := hpos (by omega)
      obtain rfl := hdp g _ _ rfl
      rw [Nat.mul_one] at r3 r4
      have hrun := run_copy_row (P := P) w dT sT o.type e g off dLen dCap ad sLen sCap cur e cs hu hsz hgb hn hsrc (by omega) h1
      unfold Oper.wp
      simp [execOp, ho, resolve, invoke, builtin, hd, hs, hrun, Result.andThen]
      refine h _ (hb _ _ F ?_ ⟨?_, nF, fun b hb => .inl hb⟩)
      · have hsp : (splice xs off cs).length = xs.length := length_splice _ _ _ hfit
        show Own e 1 _ (splice xs off cs).length (splice xs off cs) _ F
        rw [hsp]
        refine ⟨⟨by rw [hsp, Nat.mul_one], .inr ⟨g, cap, _, rfl, Nat.zero_le _, setRow_heap w g _ _ _ _ hgb, r1, r2, ?_, ?_⟩⟩, hFe⟩
        · have hcl : cur.toList.length = cap := by simpa using r3
          simp only [List.size_toArray, List.length_append, List.length_take, List.length_drop, hcl]
          omega
        · rw [Nat.mul_one]
          have hcl : cur.toList.length = cap := by simpa using r3
          have hx : xs = cur.toList.take xs.length := r4.symm
          unfold splice
          rw [List.toList_toArray]
          conv => rhs; rw [hx]
          rw [List.take_append, List.take_append, List.take_take, List.take_of_length_le (l := cs) (by simp; omega), List.take_take]
          have e1 : min xs.length off = off := by omega
          have e2 : min off xs.length = off := by omega
          rw [e1, e2]
          congr 2
          rw [List.drop_take]
          congr 1
          simp
          omega
      · refine ⟨rfl, rfl, rfl, by simp [World.setRow], fun b hb hS => setRow_other w g b _ ?_⟩
        intro e
        exact hS (by rw [hFe, e]; simp [Value.ownBlock])

theorem wpList_copy_held (hgd : o.guard = none) (d s : Operand) (dT sT : TypeId) (ho : o.op = .call { callee := .builtin .copy, args := #[d, s], argTypes := #[dT, sT] })
    (e : TypeId) (hu : P.underlying dT = some (.slice e)) (hsz : (P.info? e).map (·.size) = some 1)
    (v : Value) (xs : List Value) (hh : Held w0 w (l1 ++ rOwn e v xs :: l2))
    (dp sp : Option Addr) (dLen dCap sLen sCap : Nat) (hd : a.eval d = .slice dp dLen dCap) (hs : a.eval s = .slice sp sLen sCap) (off : Nat) (cs : List Value) (hn : cs.length = Nat.min sLen dLen)
    (hpos : 0 < cs.length → (∀ (g n c : Nat), v = .slice (some ⟨g, 0, none⟩) n c → dp = some ⟨g, off, none⟩) ∧ ∃ ad, sp = some ad ∧ ∀ j v, cs[j]? = some v → w.cell? (ad.add j) = some v)
    (hfit : off + cs.length ≤ xs.length) (h1 : ∀ v ∈ cs, v.oneCell' = true)
    (h : ∀ w', Held w0 w' (l1 ++ rOwn e v (splice xs off cs) :: l2) → wpList P ops Q rest (a.put o.dst (goInt cs.length)) w') :
    wpList P ops Q (o :: rest) a w :=
  wpList_plain hgd fun _ hK => wp_copy_held d s dT sT ho e hu hsz v xs hh dp sp dLen dCap sLen sCap hd hs off cs hn hpos hfit h1 fun w' hh' => hK _ _ (h w' hh')

theorem step_copy_held {K : Act → World → Prop} {E : Prop} (hgd : o.guard = none) (d s : Operand) (dT sT : TypeId) (ho : o.op = .call { callee := .builtin .copy, args := #[d, s], argTypes := #[dT, sT] })
    (e : TypeId) (hu : P.underlying dT = some (.slice e)) (hsz : (P.info? e).map (·.size) = some 1)
    (v : Value) (xs : List Value) (hh : Held w0 w (l1 ++ rOwn e v xs :: l2))
    (dp sp : Option Addr) (dLen dCap sLen sCap : Nat) (hd : a.eval d = .slice dp dLen dCap) (hs : a.eval s = .slice sp sLen sCap) (off : Nat) (cs : List Value) (hn : cs.length = Nat.min sLen dLen)
    (hpos : 0 < cs.length → (∀ (g n c : Nat), v = .slice (some ⟨g, 0, none⟩) n c → dp = some ⟨g, off, none⟩) ∧ ∃ ad, sp = some ad ∧ ∀ j v, cs[j]? = some v → w.cell? (ad.add j) = some v)
    (hfit : off + cs.length ≤ xs.length) (h1 : ∀ v ∈ cs, v.oneCell' = true)
    (h : ∀ w', Held w0 w' (l1 ++ rOwn e v (splice xs off cs) :: l2) → K (a.put o.dst (goInt cs.length)) w') :
    if Region.wanted o (yielded ops a.tmps) = true then Oper.wp P o a w K Q else E := by
  have hw : Region.wanted o (yielded ops a.tmps) = true := by simp [Region.wanted, hgd]
  rw [if_pos hw]
  exact wp_copy_held d s dT sT ho e hu hsz v xs hh dp sp dLen dCap sLen sCap hd hs off cs hn hpos hfit h1 h
end
end Go.Proofs.YtdbhccehbjhbpaaGreatDoor

/- append(v, make([]T, m)...) onto an owned row of one-cell elements. Nothing of the program. -/
namespace Go.Proofs.YtdbhccehbjhbpaaGreatDoor
open Go.RowKit

section
variable {P : Program} (w : World)

theorem zeroCells_one (z : Value) (hz1 : z.cells = #[z]) (m : Nat) : Builtin.zeroCells z.cells m = (List.replicate m z).toArray := by
  rw [hz1]
  apply Array.ext'
  simp [Builtin.zeroCells]
  apply List.ext_getElem
  · simp
  · intro k h1 h2
    simp [Nat.mod_one]

theorem run_append_zeros (t tn ty e : TypeId) (i : TypeInfo) (z : Value) (k kn : IntKind) (bytes : Nat) (ht : P.underlying t = some (.slice e)) (htn : P.underlying tn = some (.int kn)) (hi : P.info? e = some i) (hz : i.zero = some z)
    (hsize : i.size = 1) (hby : i.bytes = bytes) (hz1 : z.cells = #[z]) (hzo : z.oneCell' = true)
    (v : Value) (xs : List Value) (F : List Nat) (hown : Own e 1 v xs.length xs w F) (m : Nat) (h63 : xs.length + m ≤ maxLen) (hbytes : (xs.length + m) * bytes ≤ 140737488355328) :
    ∃ v' w' F', (Builtin.append_ #[t, tn] ty #[v, .int k m]).run P w = .ok v' w' ∧ Own e 1 v' (xs.length + m) (xs ++ List.replicate m z) w' F' ∧ Upd w w' F F' := by
  obtain ⟨hrow, rfl⟩ := hown
  subst hby
  unfold maxLen at h63
  have hlen : (xs ++ List.replicate m z).length = (xs.length + m) * 1 := by simp
  have fin : ∀ (v' : Value) (w' : World), w'.ownsRow 0 e 1 v' (xs.length + m) (xs ++ List.replicate m z) → w.grownBy w' v.ownBlock → (v'.ownBlock = v.ownBlock ∨ v'.ownBlock = some w.heap.size) → Upd w w' v.ownBlock.toList v'.ownBlock.toList := by
    intro v' w' _ h3 h5
    refine ⟨Mod.of_grownBy h3 (fun k hk _ => by simpa using hk), by cases v'.ownBlock <;> simp, fun b hb => ?_⟩
    rcases h5 with h5 | h5
    · rw [h5] at hb; exact .inl hb
    · rw [h5] at hb; simp at hb; exact .inr (by omega)
  have hw : IntKind.i64.wrap (m : Int) = m := by rw [IntKind.wrap_i64]; omega
  have hneg : ¬ ((m : Int) < 0) := by omega
  have hmb : m * i.bytes ≤ 140737488355328 := Nat.le_trans (Nat.mul_le_mul_right _ (by omega)) hbytes
  have h48i : ¬ (281474976710656 < (m : Int) * (i.bytes : Int)) := by rw [← Int.natCast_mul]; omega
  rcases hrow.2 with ⟨rfl, hz0⟩ | ⟨g, cap, cur, rfl, hbg, hg, hnc, hcm, hcs, htake⟩
  · have hx : xs = [] := List.eq_nil_of_length_eq_zero (by simpa using hz0)
    subst hx
    by_cases hm : m = 0
    · subst hm
      refine ⟨.slice none 0 0, w, [], ?_, Own.nil _ _ _, Upd.refl _ List.nodup_nil⟩
      have hw0 : IntKind.i64.wrap 0 = 0 := rfl
      simp [Builtin.append_, run_underlying ht, run_underlying htn, sizeOf, typeInfo, hi, asInt, asIntOf, hw0]
    · have hr := Lib.run_append_nil_zeros (P := P) w t tn ty e i z k kn ht htn hi hz m (by omega) (by omega) (by omega) (by omega)
      refine ⟨_, _, _, hr, ⟨?_, rfl⟩, fin _ _ ?_ ?_ (.inr rfl)⟩
      all_goals first
        | (refine ⟨by simp, .inr ⟨w.heap.size, _, _, by simp, Nat.zero_le _, heap_alloc_new w.drew _, by have := grownCap_ge w m 0 e; simpa using this, grownCap_le_maxLen w m 0 e (by unfold maxLen; omega), ?_, ?_⟩⟩
           · have := grownCap_ge w m 0 e
             simp only [Array.size_append, size_zeroCells, hz1]
             simp
             omega
           · rw [zeroCells_one z hz1]
             simp)
        | exact ⟨rfl, rfl, rfl, by simp, fun b hb _ => Below.heap_alloc w.drew _ b hb⟩
  · by_cases hroom : xs.length + m ≤ cap
    · have hst := run_storeCells_at P g xs.length e (List.replicate m z) 0 cur w hg (by simp; omega) (fun u hu => by rw [List.eq_of_mem_replicate hu]; exact hzo)
      simp only [Nat.add_zero] at hst
      have hr : (Builtin.append_ #[t, tn] ty #[.slice (some ⟨g, 0, none⟩) xs.length cap, .int k m]).run P w =
          .ok (.slice (some ⟨g, 0, none⟩) (xs.length + m) cap) (w.setRow g (cur.toList.take xs.length ++ List.replicate m z ++ cur.toList.drop (xs.length + (List.replicate m z).length)).toArray) := by
        by_cases hm : m = 0
        · subst hm
          have h48z : ¬ (281474976710656 < (0 : Int) * (i.bytes : Int)) := by simp
          have hw0 : IntKind.i64.wrap 0 = 0 := rfl
          have hroom0 : xs.length ≤ cap := hroom
          simp only [List.replicate_zero] at hst ⊢
          simp [Builtin.append_, run_underlying ht, run_underlying htn, sizeOf, typeInfo, hi, hsize, asInt, asIntOf, hw0, hroom0, Addr.add_lit] at hst ⊢
          rw [hst]
          rfl
        · simp [Builtin.append_, run_underlying ht, run_underlying htn, sizeOf, typeInfo, zeroValue, hi, hz, hsize, asInt, asIntOf, hw, hneg, h48i, hm, hroom, Addr.add_lit, zeroCells_one z hz1] at hst ⊢
          rw [hst]
          rfl
      refine ⟨_, _, _, hr, ⟨?_, rfl⟩, fin _ _ ?_ ?_ (.inl rfl)⟩
      all_goals first
        | (refine ⟨hlen, .inr ⟨g, cap, _, rfl, hbg, setRow_heap w g cur _ e _ hg, hroom, hcm, ?_, ?_⟩⟩
           · simp only [List.size_toArray, List.length_append, List.length_take, List.length_drop, Array.length_toList, List.length_replicate]
             omega
           · rw [Nat.mul_one] at htake
             rw [htake, ← hlen]
             exact List.take_left)
        | exact ⟨rfl, rfl, rfl, by simp [World.setRow], fun k _ hk => setRow_other w g k _ (fun e => hk (by simp [Value.ownBlock, e]))⟩
    · have hg0 : ¬ (xs.length + m ≤ cap) := hroom
      have hm : m ≠ 0 := by omega
      have h63' : ¬ (9223372036854775807 < ((xs.length : Int) + (m : Int))) := by omega
      have h48' : ¬ (281474976710656 < Builtin.nextslicecap (xs.length + m) cap * i.bytes) := by have := growslice_fits (need := xs.length + m) (old := cap) (bytes := i.bytes) (by omega) hbytes; omega
      have holds : ∀ j u, xs[j]? = some u → w.cell? ((⟨g, 0, none⟩ : Addr).add j) = some u := hrow.cells (g := g) rfl
      have hfo := run_firstCells_some (P := P) w.drew i.size xs.length ⟨g, 0, none⟩ xs.length cap xs (by rw [hsize]; omega) (by simpa using holds)
      have hr : (Builtin.append_ #[t, tn] ty #[.slice (some ⟨g, 0, none⟩) xs.length cap, .int k m]).run P w =
          .ok (.slice (some ⟨w.heap.size, 0, none⟩) (xs.length + m) (grownCap w (xs.length + m) cap e))
            (w.drew.alloc (.cells (xs.toArray ++ (List.replicate m z).toArray ++ Builtin.zeroCells z.cells (grownCap w (xs.length + m) cap e - (xs.length + m))) e)) := by
        simp [Builtin.append_, run_underlying ht, run_underlying htn, sizeOf, typeInfo, zeroValue, hi, hz, asInt, asIntOf, hw, hneg, h48i, hm, hg0, h63', h48', hsize, Question.forced, newRow, grownCap, zeroCells_one z hz1] at hfo ⊢
        rw [hfo]
        simp [Result.andThen]
      refine ⟨_, _, _, hr, ⟨?_, rfl⟩, fin _ _ ?_ ?_ (.inr rfl)⟩
      all_goals first
        | (have hge := grownCap_ge w (xs.length + m) cap e
           refine ⟨hlen, .inr ⟨w.heap.size, _, _, rfl, Nat.zero_le _, heap_alloc_new w.drew _, hge, grownCap_le_maxLen w (xs.length + m) cap e (by unfold maxLen; omega), ?_, ?_⟩⟩
           · simp only [Array.size_append, List.size_toArray, size_zeroCells, hz1, List.length_replicate]
             simp
             omega
           · simp only [Array.toList_append]
             rw [← hlen]
             exact List.take_left)
        | exact ⟨rfl, rfl, rfl, by simp, fun b hb _ => Below.heap_alloc w.drew _ b hb⟩

theorem wp_zeros_held {w0 : World} {o : Oper} {a : Act} {K : Act → World → Prop} {Q : Exit → Act → World → Prop} (l1 l2 : List Res) (s x : Operand) (t tn : TypeId)
    (ho : o.op = .call { callee := .builtin .append, args := #[s, x], argTypes := #[t, tn] })
    (e : TypeId) (i : TypeInfo) (z : Value) (k kn : IntKind) (bytes : Nat) (ht : P.underlying t = some (.slice e)) (htn : P.underlying tn = some (.int kn)) (hi : P.info? e = some i) (hz : i.zero = some z)
    (hsize : i.size = 1) (hby : i.bytes = bytes) (hz1 : z.cells = #[z]) (hzo : z.oneCell' = true)
    (v : Value) (xs : List Value) (nx : Nat) (hnx : xs.length = nx) (hs : a.eval s = v) (hh : Held w0 w (l1 ++ rOwn e v xs :: l2)) (m : Nat) (hx : a.eval x = .int k m) (h63 : nx + m ≤ maxLen) (hbytes : (nx + m) * bytes ≤ 140737488355328)
    (h : ∀ A c w', Held w0 w' (l1 ++ rOwn e (.slice A (nx + m) c) (xs ++ List.replicate m z) :: l2) → K (a.put o.dst (.slice A (nx + m) c)) w') : o.wp P a w K Q := by
  subst hnx
  obtain ⟨F, hF, nF, _, hb⟩ := hh.use
  obtain ⟨v', w', F', hrun, h2, h3⟩ := run_append_zeros (P := P) w t tn o.type e i z k kn bytes ht htn hi hz hsize hby hz1 hzo v xs F hF m h63 hbytes
  obtain ⟨A, c, rfl⟩ := h2.form
  unfold Oper.wp execOp
  simp only [ho, resolve, invoke, builtin, Sem.run_bind, Sem.run_pure, Result.andThen_ok, List.map_toArray, List.map_cons, List.map_nil, hs, hx, hrun]
  refine h A c w' (hb w' (rOwn e _ (xs ++ List.replicate m z)) F' ?_ h3)
  show Own e 1 _ (xs ++ List.replicate m z).length _ _ _
  rw [List.length_append, List.length_replicate]
  exact h2

theorem step_zeros_held {w0 : World} {ops : Array Oper} {o : Oper} {a : Act} {K : Act → World → Prop} {Q : Exit → Act → World → Prop} {E : Prop} (l1 l2 : List Res) (hgd : o.guard = none) (s x : Operand) (t tn : TypeId)
    (ho : o.op = .call { callee := .builtin .append, args := #[s, x], argTypes := #[t, tn] })
    (e : TypeId) (i : TypeInfo) (z : Value) (k kn : IntKind) (bytes : Nat) (ht : P.underlying t = some (.slice e)) (htn : P.underlying tn = some (.int kn)) (hi : P.info? e = some i) (hz : i.zero = some z)
    (hsize : i.size = 1) (hby : i.bytes = bytes) (hz1 : z.cells = #[z]) (hzo : z.oneCell' = true)
    (v : Value) (xs : List Value) (nx : Nat) (hnx : xs.length = nx) (hs : a.eval s = v) (hh : Held w0 w (l1 ++ rOwn e v xs :: l2)) (m : Nat) (hx : a.eval x = .int k m) (h63 : nx + m ≤ maxLen) (hbytes : (nx + m) * bytes ≤ 140737488355328)
    (h : ∀ A c w', Held w0 w' (l1 ++ rOwn e (.slice A (nx + m) c) (xs ++ List.replicate m z) :: l2) → K (a.put o.dst (.slice A (nx + m) c)) w') :
    if Region.wanted o (yielded ops a.tmps) = true then Oper.wp P o a w K Q else E := by
  have hw : Region.wanted o (yielded ops a.tmps) = true := by simp [Region.wanted, hgd]
  rw [if_pos hw]
  exact wp_zeros_held w l1 l2 s x t tn ho e i z k kn bytes ht htn hi hz hsize hby hz1 hzo v xs nx hnx hs hh m hx h63 hbytes h
end

theorem step_max {P : Program} {w : World} {ops : Array Oper} {o : Oper} {a : Act} {K : Act → World → Prop} {Q : Exit → Act → World → Prop} {E : Prop} (hgd : o.guard = none) (x y : Operand) (t : TypeId)
    (ho : o.op = .call { callee := .builtin .max, args := #[x, y], argTypes := #[t, t] }) (p q m : Int) (hx : a.eval x = .int .i64 p) (hy : a.eval y = .int .i64 q) (hm : (if p < q then q else p) = m)
    (h : K (a.put o.dst (.int .i64 m)) w) : if Region.wanted o (yielded ops a.tmps) = true then Oper.wp P o a w K Q else E := by
  have hw : Region.wanted o (yielded ops a.tmps) = true := by simp [Region.wanted, hgd]
  rw [if_pos hw]
  have hrun : (Builtin.max_ #[t, t] o.type #[.int .i64 p, .int .i64 q]).run P w = .ok (.int .i64 m) w := by
    rw [← hm]
    by_cases hpq : p < q
    · simp [Builtin.max_, Builtin.max2, hpq, List.foldlM]
    · simp [Builtin.max_, Builtin.max2, hpq, List.foldlM]
  unfold Oper.wp execOp
  simp only [ho, resolve, invoke, builtin, Sem.run_bind, Sem.run_pure, Result.andThen_ok, List.map_toArray, List.map_cons, List.map_nil, hx, hy, hrun]
  exact h

theorem step_min {P : Program} {w : World} {ops : Array Oper} {o : Oper} {a : Act} {K : Act → World → Prop} {Q : Exit → Act → World → Prop} {E : Prop} (hgd : o.guard = none) (x y : Operand) (t : TypeId)
    (ho : o.op = .call { callee := .builtin .min, args := #[x, y], argTypes := #[t, t] }) (p q m : Int) (hx : a.eval x = .int .i64 p) (hy : a.eval y = .int .i64 q) (hm : (if q < p then q else p) = m)
    (h : K (a.put o.dst (.int .i64 m)) w) : if Region.wanted o (yielded ops a.tmps) = true then Oper.wp P o a w K Q else E := by
  have hw : Region.wanted o (yielded ops a.tmps) = true := by simp [Region.wanted, hgd]
  rw [if_pos hw]
  have hrun : (Builtin.min_ #[t, t] o.type #[.int .i64 p, .int .i64 q]).run P w = .ok (.int .i64 m) w := by
    rw [← hm]
    by_cases hpq : q < p
    · simp [Builtin.min_, Builtin.min2, hpq, List.foldlM]
    · simp [Builtin.min_, Builtin.min2, hpq, List.foldlM]
  unfold Oper.wp execOp
  simp only [ho, resolve, invoke, builtin, Sem.run_bind, Sem.run_pure, Result.andThen_ok, List.map_toArray, List.map_cons, List.map_nil, hx, hy, hrun]
  exact h
end Go.Proofs.YtdbhccehbjhbpaaGreatDoor

/- append of one struct onto a held row of structs. Nothing of the program. -/
namespace Go.Proofs.YtdbhccehbjhbpaaGreatDoor
open Go.RowKit

section
variable {P : Program} {w0 w : World} {l1 l2 : List Res}

theorem flatten_length {α : Type} {k : Nat} : ∀ {rows : List (List α)}, (∀ r ∈ rows, r.length = k) → rows.flatten.length = rows.length * k
  | [], _ => by simp
  | r :: rows, h => by
    rw [List.flatten_cons, List.length_append, h r (by simp), flatten_length (fun q hq => h q (by simp [hq])), List.length_cons, Nat.succ_mul]
    omega

theorem Held.rows_form {k : Nat} {e : TypeId} {v : Value} {rows : List (List Value)} (h : Held w0 w (l1 ++ rRows k e v rows :: l2)) : ∃ A c, v = .slice A rows.length c ∧ rows.length ≤ c ∧ c ≤ 9223372036854775807 := by
  obtain ⟨F, -, hF⟩ := h.get
  obtain ⟨⟨-, hr⟩, -⟩ := hF
  rcases hr with ⟨e, hz⟩ | ⟨g, cap, cur, e, -, -, r1, r2, -, -⟩
  · exact ⟨none, 0, by rw [e, hz], by omega, by omega⟩
  · exact ⟨_, cap, e, r1, by unfold maxLen at r2; exact r2⟩

theorem wp_append_row {o : Oper} {a : Act} {K : Act → World → Prop} {Q : Exit → Act → World → Prop} (l1 l2 : List Res) (s x : Operand) (t : TypeId)
    (ho : o.op = .call { callee := .builtin .append, args := #[s, x], argTypes := #[t, t] })
    (k : Nat) (e : TypeId) (i : TypeInfo) (z : Value) (bytes : Nat) (ht : P.underlying t = some (.slice e)) (hi : P.info? e = some i) (hz : i.zero = some z)
    (hsize : i.size = k) (hby : i.bytes = bytes) (hzs : z.cells.size = k) (hk : 0 < k)
    (v : Value) (rows : List (List Value)) (nr : Nat) (hnr : rows.length = nr) (hs : a.eval s = v) (hh : Held w0 w (l1 ++ rRows k e v rows :: l2))
    (ad : Addr) (c : Nat) (row : List Value) (hx : a.eval x = .slice (some ad) 1 c) (hrow : row.length = k) (hcell : ∀ j u, row[j]? = some u → w.cell? (ad.add j) = some u) (h1 : ∀ u ∈ row, u.oneCell' = true)
    (hbytes : (nr + 1) * bytes ≤ 140737488355328) (h63 : nr + 1 ≤ maxLen)
    (h : ∀ A c w', nr + 1 ≤ c → c ≤ maxLen → Held w0 w' (l1 ++ rRows k e (.slice A (nr + 1) c) (rows ++ [row]) :: l2) → K (a.put o.dst (.slice A (nr + 1) c)) w') : o.wp P a w K Q := by
  subst hnr
  obtain ⟨F, ⟨hr, hown⟩, nF, _, hb⟩ := hh.use
  obtain ⟨hrw, rfl⟩ := hown
  obtain ⟨v', w', hrun, h2, h3, _, h5⟩ := run_append_own_at (P := P) w 0 t o.type e i z k bytes ht hi hz hsize hby hzs hk v rows.length rows.flatten hrw ad 1 c row (by rw [hrow, Nat.one_mul]) hcell h1 h63 hbytes (Nat.zero_le _)
  have hform : ∃ A c, v' = .slice A (rows.length + 1) c ∧ rows.length + 1 ≤ c ∧ c ≤ maxLen := by
    rcases h2.2 with ⟨_, hz⟩ | ⟨g, cap, cur, e, -, -, r1, r2, -, -⟩
    · omega
    · exact ⟨_, cap, e, r1, r2⟩
  obtain ⟨A, c', rfl, q1, q2⟩ := hform
  unfold Oper.wp execOp
  simp only [ho, resolve, invoke, builtin, Sem.run_bind, Sem.run_pure, Result.andThen_ok, List.map_toArray, List.map_cons, List.map_nil, hs, hx, hrun]
  refine h A c' w' q1 q2 (hb w' (rRows k e _ (rows ++ [row])) (Value.ownBlock (.slice A (rows.length + 1) c')).toList ⟨fun r hr' => ?_, ?_, rfl⟩ ⟨Mod.of_grownBy h3 (fun k hk _ => by simpa using hk), by cases (Value.ownBlock (.slice A (rows.length + 1) c')) <;> simp, fun b hb => ?_⟩)
  · rcases List.mem_append.1 hr' with h | h
    · exact hr r h
    · rw [List.mem_singleton.1 h]; exact hrow
  · rw [List.length_append, List.length_singleton, List.flatten_append, List.flatten_singleton]
    exact h2
  · rcases h5 with h5 | h5
    · rw [h5] at hb; exact .inl hb
    · rw [h5] at hb; simp at hb; exact .inr (by omega)

theorem step_append_row {ops : Array Oper} {E : Prop} {o : Oper} {a : Act} {K : Act → World → Prop} {Q : Exit → Act → World → Prop} (l1 l2 : List Res) (hgd : o.guard = none) (s x : Operand) (t : TypeId)
    (ho : o.op = .call { callee := .builtin .append, args := #[s, x], argTypes := #[t, t] })
    (k : Nat) (e : TypeId) (i : TypeInfo) (z : Value) (bytes : Nat) (ht : P.underlying t = some (.slice e)) (hi : P.info? e = some i) (hz : i.zero = some z)
    (hsize : i.size = k) (hby : i.bytes = bytes) (hzs : z.cells.size = k) (hk : 0 < k)
    (v : Value) (rows : List (List Value)) (nr : Nat) (hnr : rows.length = nr) (hs : a.eval s = v) (hh : Held w0 w (l1 ++ rRows k e v rows :: l2))
    (ad : Addr) (c : Nat) (row : List Value) (hx : a.eval x = .slice (some ad) 1 c) (hrow : row.length = k) (hcell : ∀ j u, row[j]? = some u → w.cell? (ad.add j) = some u) (h1 : ∀ u ∈ row, u.oneCell' = true)
    (hbytes : (nr + 1) * bytes ≤ 140737488355328) (h63 : nr + 1 ≤ maxLen)
    (h : ∀ A c w', nr + 1 ≤ c → c ≤ maxLen → Held w0 w' (l1 ++ rRows k e (.slice A (nr + 1) c) (rows ++ [row]) :: l2) → K (a.put o.dst (.slice A (nr + 1) c)) w') :
    if Region.wanted o (yielded ops a.tmps) = true then Oper.wp P o a w K Q else E := by
  have hw : Region.wanted o (yielded ops a.tmps) = true := by simp [Region.wanted, hgd]
  rw [if_pos hw]
  exact wp_append_row l1 l2 s x t ho k e i z bytes ht hi hz hsize hby hzs hk v rows nr hnr hs hh ad c row hx hrow hcell h1 hbytes h63 h

theorem wpList_append_row {ops : Array Oper} {rest : List Oper} {o : Oper} {a : Act} {Q : Exit → Act → World → Prop} (l1 l2 : List Res) (hgd : o.guard = none) (s x : Operand) (t : TypeId)
    (ho : o.op = .call { callee := .builtin .append, args := #[s, x], argTypes := #[t, t] })
    (k : Nat) (e : TypeId) (i : TypeInfo) (z : Value) (bytes : Nat) (ht : P.underlying t = some (.slice e)) (hi : P.info? e = some i) (hz : i.zero = some z)
    (hsize : i.size = k) (hby : i.bytes = bytes) (hzs : z.cells.size = k) (hk : 0 < k)
    (v : Value) (rows : List (List Value)) (nr : Nat) (hnr : rows.length = nr) (hs : a.eval s = v) (hh : Held w0 w (l1 ++ rRows k e v rows :: l2))
    (ad : Addr) (c : Nat) (row : List Value) (hx : a.eval x = .slice (some ad) 1 c) (hrow : row.length = k) (hcell : ∀ j u, row[j]? = some u → w.cell? (ad.add j) = some u) (h1 : ∀ u ∈ row, u.oneCell' = true)
    (hbytes : (nr + 1) * bytes ≤ 140737488355328) (h63 : nr + 1 ≤ maxLen)
    (h : ∀ A c w', nr + 1 ≤ c → c ≤ maxLen → Held w0 w' (l1 ++ rRows k e (.slice A (nr + 1) c) (rows ++ [row]) :: l2) → wpList P ops Q rest (a.put o.dst (.slice A (nr + 1) c)) w') : wpList P ops Q (o :: rest) a w :=
  wpList_plain hgd fun _ hK => wp_append_row l1 l2 s x t ho k e i z bytes ht hi hz hsize hby hzs hk v rows nr hnr hs hh ad c row hx hrow hcell h1 hbytes h63 fun A c w' h2 h3 h4 => hK _ _ (h A c w' h2 h3 h4)

theorem step_mapUpdate_ex {ops : Array Oper} {E : Prop} {o : Oper} {a : Act} {K : Act → World → Prop} {Q : Exit → Act → World → Prop} (hgd : o.guard = none) (m x v : Operand) (t : TypeId) (hop : o.op = Op.mapUpdate t m x v)
    (mv key val : Value) (hm : a.eval m = mv) (hx : a.eval x = key) (hv : a.eval v = val) (Post : World → Prop) (H : ∃ w', (Instr.mapUpdate t mv key val).run P w = .ok () w' ∧ Post w')
    (hK : ∀ w', Post w' → K (a.put o.dst undef) w') : if Region.wanted o (yielded ops a.tmps) = true then Oper.wp P o a w K Q else E := by
  have hw : Region.wanted o (yielded ops a.tmps) = true := by simp [Region.wanted, hgd]
  rw [if_pos hw]
  obtain ⟨w', hrun, hp⟩ := H
  unfold Oper.wp
  simp [execOp, hop, hm, hx, hv, hrun, Result.andThen]
  exact hK w' hp
end
end Go.Proofs.YtdbhccehbjhbpaaGreatDoor

/- Arguments as they come in, opened: bytes, ints. -/
namespace Go.Proofs.YtdbhccehbjhbpaaGreatDoor
open Go.ChangeShapes Go.WideShapes Go.ChangeAt Go.RowKit

section
variable {H : Type} {enc : TypeId × Value → H} {P : Program} {W : World} {base : Nat} {t e : TypeId}

def toBytes (zs : List Int) : List UInt8 := zs.map fun n => UInt8.ofNat n.toNat
theorem toBytes_bytesV {zs : List Int} (h : ∀ n ∈ zs, (Lit.int .u8 n).wf = true) : bytesV (toBytes zs) = zs.map (Value.int .u8) := by
  unfold bytesV toBytes
  rw [List.map_map]
  refine List.map_congr_left fun n hn => ?_
  have hw := h n hn
  have hb : 0 ≤ n ∧ n < 256 := by
    simp [Lit.wf, IntKind.min, IntKind.max, IntKind.bits, IntKind.signed] at hw
    omega
  simp only [Function.comp]
  congr 1
  rw [UInt8.toNat_ofNat']
  have : n.toNat % 2 ^ 8 = n.toNat := Nat.mod_eq_of_lt (by omega)
  rw [this]
  omega

/-- cells that hold a slice of bytes. -/
theorem trod_bytes {cs : List Value} {x : DataW H × List MemPlace} {sp : Nat → Bool} {hd : Bool} {fuel base : Nat} (ht : P.underlying t = some (.slice e)) (he : P.underlying e = some (.int .u8)) (hc : P.cellsOf e = 1)
    (h : DataW.trod enc P W base sp hd fuel t cs = some x) : ∃ v l, cs = [v] ∧ Rd (· < W.heap.size) W v (bytesV l) := by
  rcases open_ints ht he hc h with ⟨rfl, _⟩ | ⟨a, len, cap, zs, rfl, _, hl, hm, hz, _, hcell, hwf⟩
  · exact ⟨_, [], rfl, Rd.nil _ _⟩
  · have hlen : len ≤ zs.length := by rw [hz]; split <;> omega
    refine ⟨_, toBytes (zs.take len), rfl, some a, cap, ?_, ?_, hm, fun hx => ?_⟩
    · rw [bytesV_length]; unfold toBytes; rw [List.length_map, List.length_take]; congr 1; omega
    · rw [bytesV_length]; unfold toBytes; rw [List.length_map, List.length_take]; omega
    · have hwf' : ∀ n ∈ zs.take len, (Lit.int .u8 n).wf = true := fun n hn => hwf n (List.mem_of_mem_take hn)
      rw [toBytes_bytesV hwf'] at hx
      have hpos : 0 < len := by
        rcases Nat.eq_zero_or_pos len with h0 | h0
        · subst h0; simp at hx
        · exact h0
      have h0 := hcell 0 (by omega)
      have hs : a.spot = none := by
        cases hs : a.spot with
        | none => rfl
        | some s =>
          have : a.add 0 = a := by simp [Addr.add]
          rw [this] at h0
          unfold World.cell? at h0
          rw [hs] at h0
          split at h0 <;> simp at h0
      have hadd : ∀ j, a.add j = ⟨a.block, a.off + j, none⟩ := fun j => by
        unfold Addr.add
        split
        · rename_i e0; cases a; simp_all
        · rfl
      refine ⟨a.block, a.off, by cases a; simp_all, ?_, fun k u hu => ?_⟩
      · have := World.block_lt_of_cell? W _ h0
        simpa [hadd] using this
      · rw [toBytes_bytesV hwf', List.getElem?_map] at hu
        rw [← hadd]
        have hk : k < (zs.take len).length := by
          rcases Nat.lt_or_ge k (zs.take len).length with h | h
          · exact h
          · rw [List.getElem?_eq_none h] at hu; cases hu
        rw [List.length_take] at hk
        rw [hcell k (by omega), ← hu, List.getElem?_take, if_pos (by omega), List.getElem?_eq_getElem (by omega), List.getD_eq_getElem?_getD, List.getElem?_eq_getElem (by omega)]
        rfl

theorem open_bytesR {v : Value} {d : DataW H} {p : List MemPlace} (ht : P.underlying t = some (.slice e)) (he : P.underlying e = some (.int .u8)) (hc : P.cellsOf e = 1) (ok : Value.okWide P W .any base t v)
    (h : DataW.Trod enc P W 0 (fun _ => true) true t v d p) : ∃ l, Rd (· < W.heap.size) W v (bytesV l) := by
  obtain ⟨a0, len, cap, rfl⟩ := okWide_slice ht ok
  obtain ⟨fuel, hf⟩ := h
  obtain ⟨v, l, hv, hr⟩ := trod_bytes ht he hc hf
  simp [Value.cells] at hv
  subst hv
  exact ⟨l, hr⟩

theorem open_intR {v : Value} {d : DataW H} {p : List MemPlace} {k : IntKind} (ht : P.underlying t = some (.int k)) (ok : Value.okWide P W .any base t v)
    (h : DataW.Trod enc P W 0 (fun _ => true) true t v d p) : ∃ x, v = .int k x ∧ (Lit.int k x).wf = true := by
  obtain ⟨x, rfl, _, _, hw⟩ := open_int ht ok h
  exact ⟨x, rfl, hw⟩

/-- The slice value v holds the rows of cells, k cells each. -/
def RdRows (k : Nat) (S : Nat → Prop) (w : World) (v : Value) (rows : List (List Value)) : Prop :=
  (∀ r ∈ rows, r.length = k) ∧ ∃ A c, v = .slice A rows.length c ∧ rows.length ≤ c ∧ c ≤ maxLen ∧
    (rows ≠ [] → ∃ b off, A = some ⟨b, off, none⟩ ∧ S b ∧ ∀ (i j : Nat) (r : List Value) (u : Value), rows[i]? = some r → r[j]? = some u → w.cell? ⟨b, off + i * k + j, none⟩ = some u)

theorem RdRows.keep {k : Nat} {S : Nat → Prop} {w w' : World} {v : Value} {rows : List (List Value)} (h : RdRows k S w v rows) (hk : ∀ b, S b → b < w.heap.size → w'.heap[b]? = w.heap[b]?) : RdRows k S w' v rows := by
  obtain ⟨hl, A, c, hv, hc, hm, hA⟩ := h
  refine ⟨hl, A, c, hv, hc, hm, fun hx => ?_⟩
  obtain ⟨b, off, ha, hs, hcell⟩ := hA hx
  exact ⟨b, off, ha, hs, fun i j r u hr hu => (World.cell?_of_block (a := ⟨b, off + i * k + j, none⟩) (hk b hs (World.block_lt_of_cell? w _ (hcell i j r u hr hu)))).trans (hcell i j r u hr hu)⟩

theorem open_rows {v : Value} {d : DataW H} {p : List MemPlace} {k : Nat} (hk : 0 < k) (ht : P.underlying t = some (.slice e)) (hc : P.cellsOf e = k) (ok : Value.okWide P W .any base t v)
    (h : DataW.Trod enc P W 0 (fun _ => true) true t v d p) : ∃ rows, RdRows k (· < W.heap.size) W v rows ∧ ∀ r ∈ rows, ∃ n x, DataW.trod enc P W 0 (fun _ => true) true n e r = some x := by
  obtain ⟨a0, len0, cap0, rfl⟩ := okWide_slice ht ok
  obtain ⟨fuel, hf⟩ := h
  rcases Go.Deep.open_slice ht hf with ⟨hcs, _⟩ | ⟨a, len, cap, m, n, D, Pl, hcs, _, hl, hm, hmm, _, hx⟩
  · simp [Value.cells] at hcs
    obtain ⟨rfl, rfl, rfl⟩ := hcs
    exact ⟨[], ⟨by simp, none, 0, rfl, Nat.le_refl _, by simp [maxLen], fun h => absurd rfl h⟩, by simp⟩
  · simp [Value.cells] at hcs
    obtain ⟨rfl, rfl, rfl⟩ := hcs
    simp only [if_true] at hmm
    subst hmm
    obtain ⟨R, hR⟩ := Go.Deep.choose_lt (α := List Value) (p := fun i cs' => W.cells? 0 (a.add (i * P.cellsOf e)) (P.cellsOf e) = some cs' ∧ ∃ x, DataW.trod enc P W 0 (fun _ => true) true n e cs' = some x) (n := m) (fun i hi => by
      obtain ⟨cs', h1, h2⟩ := hx i hi
      exact ⟨cs', h1, _, h2⟩)
    have hget : ∀ i, i < m → ∀ j u, (R i)[j]? = some u → W.cell? ((a.add (i * k)).add j) = some u := fun i hi j u hu => by
      obtain ⟨_, hlen, hcell⟩ := World.cells?_some (hR i hi).1
      rw [hc] at hcell hlen
      have hj : j < (R i).length := (List.getElem?_eq_some_iff.1 hu).1
      rw [hcell j (by omega)]
      exact hu
    have hlenR : ∀ i, i < m → (R i).length = k := fun i hi => by
      obtain ⟨_, hlen, _⟩ := World.cells?_some (hR i hi).1
      rw [hc] at hlen
      exact hlen
    refine ⟨(List.range len0).map R, ⟨fun r hr => ?_, some a, m, by simp, by simpa using hl, hm, fun hx => ?_⟩, fun r hr => ?_⟩
    · obtain ⟨i, hi, rfl⟩ := List.mem_map.1 hr
      exact hlenR i (by have := List.mem_range.1 hi; omega)
    · have hpos : 0 < len0 := by
        rcases Nat.eq_zero_or_pos len0 with h0 | h0
        · subst h0; simp at hx
        · exact h0
      have h0 := hget 0 (by omega) 0 ((R 0)[0]'(by rw [hlenR 0 (by omega)]; exact hk)) (List.getElem?_eq_getElem _)
      have hs : a.spot = none := by
        cases hs : a.spot with
        | none => rfl
        | some s =>
          have : ((a.add (0 * k)).add 0) = a := by simp [Addr.add]
          rw [this] at h0
          unfold World.cell? at h0
          rw [hs] at h0
          split at h0 <;> simp at h0
      have hadd : ∀ i j, (a.add (i * k)).add j = ⟨a.block, a.off + i * k + j, none⟩ := fun i j => by
        have h1 : ∀ (x : Addr) n, x.spot = none → x.add n = ⟨x.block, x.off + n, none⟩ := fun x n hx => by
          unfold Addr.add
          split
          · rename_i e0; subst e0; cases x; simp_all
          · rfl
        rw [h1 a _ hs, h1 _ _ rfl]
      refine ⟨a.block, a.off, by cases a; simp_all, ?_, fun i j r u hr hu => ?_⟩
      · have := World.block_lt_of_cell? W _ h0
        rw [hadd] at this
        exact this
      · rw [List.getElem?_map] at hr
        have hi : i < len0 := by
          rcases Nat.lt_or_ge i len0 with h | h
          · exact h
          · rw [List.getElem?_eq_none (by simpa using h)] at hr; cases hr
        rw [List.getElem?_range hi] at hr
        have hr' : R i = r := by simpa using hr
        subst hr'
        rw [← hadd]
        exact hget i (by omega) j u hu
    · obtain ⟨i, hi, rfl⟩ := List.mem_map.1 hr
      exact ⟨n, (hR i (by have := List.mem_range.1 hi; omega)).2⟩
end
end Go.Proofs.YtdbhccehbjhbpaaGreatDoor

/- slices.Clone of bytes; rows of bytes among held things. -/
namespace Go.Proofs.YtdbhccehbjhbpaaGreatDoor
open Go.RowKit

theorem Tryz.info5 : (Tryz.prog.info? 5).map (fun i => (i.zero, i.size, i.bytes)) = some (some (.int .u8 0), 1, 1) := by kernel_rfl

set_option maxHeartbeats 1000000 in
/-- slices.Clone of bytes: a row of its own. -/
theorem clone_bytes (S : Nat → Prop) (w : World) (v : Value) (l : List UInt8) (h : Rd S w v (bytesV l)) (hl : l.length ≤ 70368744177664) :
    Calls Tryz.prog 103 #[v] w fun e w' => ∃ v' F, e = .returned v' ∧ Own 5 1 v' l.length (bytesV l) w' F ∧ Upd w w' [] F := by
  obtain ⟨A, c, hv, hc, hmx, hA⟩ := id h
  rw [bytesV_length] at hc hv
  subst hv
  have eN := fun (w : World) (a : Option Addr) (n c : Nat) => Lib.run_eql_slice_nil (P := Tryz.prog) w 87 5 a n c 0 0 Tryz.underlying87
  cases A with
  | none =>
    have : l = [] := by
      cases l with
      | nil => rfl
      | cons _ _ => obtain ⟨_, _, h, _⟩ := hA (by simp [bytesV]); cases h
    subst this
    clear h hA
    go_enter Tryz.func103, Tryz.ntmps103
    go_wp2
    go_ret
    exact ⟨_, [], rfl, Own.nil _ _ _, Upd.refl _ (by simp)⟩
  | some ad =>
    obtain ⟨i0, hi, hz0, hz1, hz2⟩ := info_parts Tryz.info5
    have HH := hid h
    have HI := hid (And.intro hi (And.intro hz0 (And.intro hz1 hz2)))
    have HL := hid hl
    clear h hA hi hz0 hz1 hz2 hl hmx
    go_enter Tryz.func103, Tryz.ntmps103
    have HO := hid (Own.made 5 w)
    go_wp2_with (at_builtin; refine wpList_append_rd _ rfl _ _ 87 rfl 5 i0 (.int .u8 0) 1 Tryz.underlying87 HI.out.1 HI.out.2.1 HI.out.2.2.1 HI.out.2.2.2 rfl _ 0 [] _ rfl HO.out S (.slice (some ad) l.length c) (bytesV l) rfl (HH.out.alloc _) (bytesV_one l) ?c1 ?c2 ?c3)
    case c1 => have := HL.out; rw [bytesV_length]; omega
    case c2 => have := HL.out; rw [bytesV_length]; unfold maxLen; omega
    case c3 =>
      intro v' w1 F' hown hu
      have HP := hid (And.intro hown hu)
      clear hown hu
      go_wp2
      go_ret
      obtain ⟨hown, hu⟩ := HP.out
      refine ⟨_, F', rfl, by simpa [bytesV_length] using hown, Upd.new ((Mod.refl _ w).alloc _) hu (by simp)⟩

def rBytes (v : Value) (l : List UInt8) : Res := rOwn 5 v (bytesV l)
theorem own_bytes {v : Value} {l : List UInt8} {w : World} {F : List Nat} (h : Own 5 1 v l.length (bytesV l) w F) : (rBytes v l).holds w F := by
  show Own _ 1 v (bytesV l).length (bytesV l) w F
  rwa [bytesV_length]
theorem bytes_own {v : Value} {l : List UInt8} {w : World} {F : List Nat} (h : (rBytes v l).holds w F) : Own 5 1 v l.length (bytesV l) w F := by
  have h' : Own _ 1 v (bytesV l).length (bytesV l) w F := h
  rwa [bytesV_length] at h'
theorem Held.bytes {w0 w : World} {l1 l2 : List Res} {v : Value} {l : List UInt8} (h : Held w0 w (l1 ++ rBytes v l :: l2)) : Rd (fun _ => True) w v (bytesV l) := Held.own_rd h
theorem Held.form {w0 w : World} {l1 l2 : List Res} {v : Value} {l : List UInt8} (h : Held w0 w (l1 ++ rBytes v l :: l2)) : ∃ A c, v = .slice A l.length c ∧ l.length ≤ c ∧ c ≤ 9223372036854775807 := by
  obtain ⟨A, c, hv, hc, hm, _⟩ := h.bytes
  rw [bytesV_length] at hv hc
  exact ⟨A, c, hv, hc, hm⟩
theorem Held.bytes_take {w0 w : World} {l1 l2 : List Res} {A : Option Addr} {n c : Nat} {x : List UInt8} (h : Held w0 w (l1 ++ rBytes (.slice A n c) x :: l2)) {k : Nat} (hk : k ≤ x.length) : Held w0 w (l1 ++ rBytes (.slice A k c) (x.take k) :: l2) := by
  obtain ⟨F, hF, nF, _, hb⟩ := h.use
  obtain ⟨⟨h1, h2⟩, h3⟩ := bytes_own hF
  refine hb w _ F (own_bytes ⟨⟨by rw [bytesV_length, List.length_take]; omega, ?_⟩, by rw [h3]; cases A <;> rfl⟩) (Upd.refl _ nF)
  rw [bytesV_length] at h1
  rw [List.length_take, Nat.min_eq_left hk]
  rcases h2 with ⟨e, hz⟩ | ⟨g, cap, cur, e, hbase, hg, r1, r2, r3, r4⟩
  · injection e with e1 e2 e3
    subst e1 e2 e3
    have : k = 0 := by omega
    subst this
    exact .inl ⟨rfl, rfl⟩
  · injection e with e1 e2 e3
    subst e1 e2 e3
    refine .inr ⟨g, c, cur, rfl, hbase, hg, by omega, r2, r3, ?_⟩
    rw [bytesV_take, ← r4, List.take_take, Nat.mul_one, Nat.mul_one, Nat.min_eq_left hk]

theorem clone_held {w0 w : World} {Rs : List Res} (h : Held w0 w Rs) (S : Nat → Prop) (v : Value) (l : List UInt8) (hr : Rd S w v (bytesV l)) (hl : l.length ≤ 70368744177664) :
    Calls Tryz.prog 103 #[v] w fun e w' => ∃ v', e = .returned v' ∧ Held w0 w' (rBytes v' l :: Rs) :=
  (clone_bytes S w v l hr hl).mono fun _ _ ⟨v', _, he, h1, h2⟩ => ⟨v', he, h.more (own_bytes h1) h2⟩
end Go.Proofs.YtdbhccehbjhbpaaGreatDoor
