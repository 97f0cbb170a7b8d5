/- Rows of things in memory, each with a footprint of its own ('Big'); maps of such things ('MapBig'). Nothing of the program. -/
import Derived.Test.YtcdeknbbeghljaaB1
namespace Go.Proofs.Ytcdeknbbeghljaa
open Go.RowKit
open Go.ChangeMaps (setBlock)
open Go.Maps (Keyed)

/-- A thing in memory: with a footprint, on which alone it hangs. -/
structure Loc {α : Type} (R : α → World → List Nat → Prop) : Prop where
  keep : ∀ {x : α} {w w' : World} {F : List Nat}, R x w F → (∀ b ∈ F, w'.heap[b]? = w.heap[b]?) → R x w' F
  lt : ∀ {x : α} {w : World} {F : List Nat}, R x w F → ∀ b ∈ F, b < w.heap.size

def Big {α : Type} (R : α → World → List Nat → Prop) : List α → World → List Nat → Prop
  | [], _, F => F = []
  | x :: l, w, F => ∃ F1 F2, R x w F1 ∧ Big R l w F2 ∧ F = F1 ++ F2

section
variable {α : Type} {R : α → World → List Nat → Prop}

theorem Big.loc (hR : Loc R) : Loc (Big R) where
  keep := fun {l w w' F} h hk => by
    induction l generalizing F with
    | nil => exact h
    | cons x l ih =>
      obtain ⟨F1, F2, h1, h2, rfl⟩ := h
      exact ⟨F1, F2, hR.keep h1 (fun b hb => hk b (by simp [hb])), ih h2 (fun b hb => hk b (by simp [hb])), rfl⟩
  lt := fun {l w F} h => by
    induction l generalizing F with
    | nil => intro b hb; rw [show F = [] from h] at hb; cases hb
    | cons x l ih =>
      obtain ⟨F1, F2, h1, h2, rfl⟩ := h
      intro b hb
      rcases List.mem_append.1 hb with hb | hb
      · exact hR.lt h1 b hb
      · exact ih h2 b hb

theorem Big.append {w : World} : ∀ {l m : List α} {F : List Nat}, Big R (l ++ m) w F ↔ ∃ F1 F2, Big R l w F1 ∧ Big R m w F2 ∧ F = F1 ++ F2
  | [], m, F => by
    constructor
    · intro h; exact ⟨[], F, rfl, h, rfl⟩
    · rintro ⟨F1, F2, h1, h2, rfl⟩
      rw [show F1 = [] from h1]; exact h2
  | x :: l, m, F => by
    constructor
    · rintro ⟨F1, F2, h1, h2, rfl⟩
      obtain ⟨G1, G2, h3, h4, rfl⟩ := (Big.append (l := l) (m := m)).1 h2
      exact ⟨F1 ++ G1, G2, ⟨F1, G1, h1, h3, rfl⟩, h4, by simp⟩
    · rintro ⟨F1, F2, ⟨G1, G2, h1, h3, rfl⟩, h2, rfl⟩
      exact ⟨G1, G2 ++ F2, h1, (Big.append (l := l) (m := m)).2 ⟨G2, F2, h3, h2, rfl⟩, by simp⟩

/-- One of them in focus: what becomes of the row when that one alone is worked on. -/
theorem Big.focus (hR : Loc R) {w : World} {l1 l2 : List α} {x : α} {F : List Nat} (h : Big R (l1 ++ x :: l2) w F) (hn : F.Nodup) :
    ∃ Fx, R x w Fx ∧ Fx.Nodup ∧ (∀ b ∈ Fx, b ∈ F) ∧
      ∀ w' x' Fx', R x' w' Fx' → Upd w w' Fx Fx' → ∃ F', Big R (l1 ++ x' :: l2) w' F' ∧ Upd w w' F F' ∧ (∀ b ∈ F', b ∈ Fx' ∨ b ∈ F ∧ b ∉ Fx) := by
  obtain ⟨F1, F2, h1, ⟨Fx, F3, hx, h3, rfl⟩, rfl⟩ := Big.append.1 h
  rw [List.nodup_append] at hn
  obtain ⟨n1, n2, d12⟩ := hn
  rw [List.nodup_append] at n2
  obtain ⟨nx, n3, dx3⟩ := n2
  refine ⟨Fx, hx, nx, fun b hb => by simp [hb], fun w' x' Fx' hx' hu => ?_⟩
  have a1 : ∀ b ∈ F1, b ∉ Fx := fun b hb hbx => d12 b hb b (by simp [hbx]) rfl
  have a3 : ∀ b ∈ F3, b ∉ Fx := fun b hb hbx => dx3 b hbx b hb rfl
  obtain ⟨k1, e1⟩ := hu.other a1 ((Big.loc hR).lt h1)
  obtain ⟨k3, e3⟩ := hu.other a3 ((Big.loc hR).lt h3)
  refine ⟨F1 ++ (Fx' ++ F3), Big.append.2 ⟨F1, Fx' ++ F3, (Big.loc hR).keep h1 k1, ⟨Fx', F3, hx', (Big.loc hR).keep h3 k3, rfl⟩, rfl⟩, ⟨hu.mod.mono (fun b _ hb => by simp [hb]), ?_, ?_⟩, ?_⟩
  · rw [List.nodup_append]
    refine ⟨n1, ?_, ?_⟩
    · rw [List.nodup_append]
      refine ⟨hu.nodup, n3, ?_⟩
      intro a ha b hb hab
      subst hab
      exact e3 a hb ha
    · intro a ha b hb hab
      subst hab
      rcases List.mem_append.1 hb with hb | hb
      · exact e1 a ha hb
      · exact d12 a ha a (by simp [hb]) rfl
  · intro b hb
    rcases List.mem_append.1 hb with hb | hb
    · exact .inl (by simp [hb])
    · rcases List.mem_append.1 hb with hb | hb
      · rcases hu.sub b hb with h | h
        · exact .inl (by simp [h])
        · exact .inr h
      · exact .inl (by simp [hb])
  · intro b hb
    rcases List.mem_append.1 hb with hb | hb
    · exact .inr ⟨by simp [hb], a1 b hb⟩
    · rcases List.mem_append.1 hb with hb | hb
      · exact .inl hb
      · exact .inr ⟨by simp [hb], a3 b hb⟩

/-- One of them goes. -/
theorem Big.without (hR : Loc R) {w : World} {l1 l2 : List α} {x : α} {F : List Nat} (h : Big R (l1 ++ x :: l2) w F) (hn : F.Nodup) :
    ∃ Fx F', R x w Fx ∧ Big R (l1 ++ l2) w F' ∧ F'.Nodup ∧ (∀ b ∈ F', b ∈ F ∧ b ∉ Fx) ∧ (∀ b ∈ Fx, b ∈ F) := by
  obtain ⟨F1, F2, h1, ⟨Fx, F3, hx, h3, rfl⟩, rfl⟩ := Big.append.1 h
  rw [List.nodup_append] at hn
  obtain ⟨n1, n2, d12⟩ := hn
  rw [List.nodup_append] at n2
  obtain ⟨nx, n3, dx3⟩ := n2
  refine ⟨Fx, F1 ++ F3, hx, Big.append.2 ⟨F1, F3, h1, h3, rfl⟩, ?_, ?_, fun b hb => by simp [hb]⟩
  · rw [List.nodup_append]
    exact ⟨n1, n3, fun a ha b hb => d12 a ha b (by simp [hb])⟩
  · intro b hb
    rcases List.mem_append.1 hb with hb | hb
    · exact ⟨by simp [hb], fun hbx => d12 b hb b (by simp [hbx]) rfl⟩
    · exact ⟨by simp [hb], fun hbx => dx3 b hbx b hb rfl⟩

theorem Big.perm {w : World} {l m : List α} (hp : l.Perm m) : ∀ {F : List Nat}, Big R l w F → ∃ G, Big R m w G ∧ F.Perm G := by
  induction hp with
  | nil => intro F h; exact ⟨F, h, List.Perm.refl _⟩
  | cons x _ ih =>
    rintro F ⟨F1, F2, h1, h2, rfl⟩
    obtain ⟨G, hG, hp⟩ := ih h2
    exact ⟨F1 ++ G, ⟨F1, G, h1, hG, rfl⟩, hp.append_left _⟩
  | swap x y l =>
    rintro F ⟨F1, _, h1, ⟨F2, F3, h2, h3, rfl⟩, rfl⟩
    exact ⟨F2 ++ (F1 ++ F3), ⟨F2, F1 ++ F3, h2, ⟨F1, F3, h1, h3, rfl⟩, rfl⟩, by
      rw [← List.append_assoc, ← List.append_assoc]
      exact List.perm_append_comm.append_right _⟩
  | trans _ _ ih1 ih2 =>
    intro F h
    obtain ⟨G, hG, p1⟩ := ih1 h
    obtain ⟨H, hH, p2⟩ := ih2 hG
    exact ⟨H, hH, p1.trans p2⟩
end

/-! ## maps of things -/

/-- Block bm is a map whose entries are M: each key as kv says, each element a thing (R), with footprints apart; F: all blocks, bm among them. -/
def MapBig {κ ν : Type} (P : Program) (kt : TypeId) (kv : κ → Value) (R : ν → Value → World → List Nat → Prop) (bm : Nat) (M : List (κ × ν)) (w : World) (F : List Nat) : Prop :=
  ∃ (L : List ((κ × ν) × Value)) (G : List Nat), L.map (·.1) = M ∧ MapAt P kt w bm (L.map fun x => (kv x.1.1, x.2)) ∧ Big (fun x => R x.1.2 x.2) L w G ∧ F = bm :: G

section
variable {κ ν : Type} {P : Program} {kt t e : TypeId} {kv : κ → Value} {R : ν → Value → World → List Nat → Prop} {bm : Nat} {M : List (κ × ν)} {w : World} {F : List Nat}

theorem MapBig.loc (hR : Loc (fun x : (κ × ν) × Value => R x.1.2 x.2)) : Loc (MapBig P kt kv R bm) where
  keep := fun {M w w' F} h hk => by
    obtain ⟨L, G, hL, hm, hb, rfl⟩ := h
    exact ⟨L, G, hL, hm.keep (hk bm (by simp)), (Big.loc hR).keep hb (fun b hb => hk b (by simp [hb])), rfl⟩
  lt := fun {M w F} h => by
    obtain ⟨L, G, hL, hm, hb, rfl⟩ := h
    intro b hb'
    rcases List.mem_cons.1 hb' with rfl | h'
    · exact hm.lt
    · exact (Big.loc hR).lt hb b h'

theorem MapBig.perm (h : MapBig P kt kv R bm M w F) (hn : F.Nodup) {M' : List (κ × ν)} (hp : M.Perm M') : ∃ F', MapBig P kt kv R bm M' w F' ∧ F.Perm F' := by
  obtain ⟨L, G, rfl, hm, hb, rfl⟩ := h
  obtain ⟨L', hL', hp'⟩ : ∃ L' : List ((κ × ν) × Value), L'.map (·.1) = M' ∧ L.Perm L' := by
    clear hm hb hn
    generalize hq : L.map (·.1) = Q at hp
    induction hp generalizing L with
    | nil => exact ⟨L, hq, List.Perm.refl _⟩
    | cons x _ ih =>
      cases L with
      | nil => cases hq
      | cons y L =>
        simp only [List.map_cons, List.cons.injEq] at hq
        obtain ⟨L', h1, h2⟩ := ih L hq.2
        exact ⟨y :: L', by simp [h1, hq.1], h2.cons y⟩
    | swap x y l =>
      cases L with
      | nil => cases hq
      | cons y' L =>
        cases L with
        | nil => simp at hq
        | cons x' L =>
          simp only [List.map_cons, List.cons.injEq] at hq
          exact ⟨x' :: y' :: L, by simp [hq], List.Perm.swap _ _ _⟩
    | trans _ _ ih1 ih2 =>
      obtain ⟨L1, h1, p1⟩ := ih1 L hq
      obtain ⟨L2, h2, p2⟩ := ih2 L1 h1
      exact ⟨L2, h2, p1.trans p2⟩
  obtain ⟨G', hb', hpG⟩ := Big.perm hp' hb
  exact ⟨bm :: G', ⟨L', G', hL', hm.perm (hp'.map _), hb', rfl⟩, hpG.cons _⟩

theorem MapBig.length (ht : P.underlying t = some (.map kt e)) (h : MapBig P kt kv R bm M w F) (ty : TypeId) : (Builtin.len_ #[t] ty #[.map (some bm)]).run P w = .ok (.int .i64 M.length) w := by
  obtain ⟨L, G, rfl, hm, _, _⟩ := h
  have := hm.run_len ht ty
  simpa using this

theorem MapBig.nodup (h : MapBig P kt kv R bm M w F) : (M.map fun p => kv p.1).Nodup := by
  obtain ⟨L, G, rfl, hm, _, _⟩ := h
  have := hm.nodup
  simpa [List.map_map, Function.comp_def] using this

theorem MapBig.made (P : Program) (kt : TypeId) (kv : κ → Value) (R : ν → Value → World → List Nat → Prop) (w : World) : MapBig P kt kv R w.heap.size [] (w.alloc (.map #[] 0)) [w.heap.size] :=
  ⟨[], [], rfl, MapAt.made P kt w, rfl, rfl⟩

/-- a key that is not there. -/
theorem MapBig.miss (K : Keyed P kt) (ht : P.underlying t = some (.map kt e)) (h : MapBig P kt kv R bm M w F) {z : Value} (hz : (zeroValue e).run P w = .ok z w) {k : κ} {l : Lit} (hk : keyOf P kt (kv k) = some l) (hm : ∀ p ∈ M, kv p.1 ≠ kv k) (ok : Bool) :
    (Instr.lookup t (.map (some bm)) (kv k) ok).run P w = .ok (if ok then .tuple #[z, .bool false] else z) w := by
  obtain ⟨L, G, rfl, hma, _, _⟩ := h
  refine hma.lookup_miss K ht hz hk (fun p hp => ?_) ok
  obtain ⟨x, hx, rfl⟩ := List.mem_map.1 hp
  exact hm x.1 (List.mem_map.2 ⟨x, hx, rfl⟩)

/-- a key that is there: what is found; and what becomes of the map when that one thing is worked on. -/
theorem MapBig.focus (hR : Loc (fun x : (κ × ν) × Value => R x.1.2 x.2)) (K : Keyed P kt) (ht : P.underlying t = some (.map kt e)) {M1 M2 : List (κ × ν)} {k : κ} {x : ν} (h : MapBig P kt kv R bm (M1 ++ (k, x) :: M2) w F) (hn : F.Nodup) {l : Lit} (hk : keyOf P kt (kv k) = some l) :
    ∃ v Fx, R x v w Fx ∧ Fx.Nodup ∧ (∀ b ∈ Fx, b ∈ F ∧ b ≠ bm) ∧ (∀ ok, (Instr.lookup t (.map (some bm)) (kv k) ok).run P w = .ok (if ok then .tuple #[v, .bool true] else v) w) ∧
      ∀ w' x' Fx', R x' v w' Fx' → Upd w w' Fx Fx' → ∃ F', MapBig P kt kv R bm (M1 ++ (k, x') :: M2) w' F' ∧ Upd w w' F F' ∧ ∀ b ∈ F', b ∈ F ∨ b ∈ Fx' := by
  obtain ⟨L, G, hL, hm, hb, rfl⟩ := h
  obtain ⟨L1, L2', rfl, hL1, hL2⟩ := List.map_eq_append_iff.1 hL
  obtain ⟨y, L2, rfl, hy, rfl⟩ := List.map_eq_cons_iff.1 hL2
  subst hL1
  obtain ⟨⟨k', x''⟩, v⟩ := y
  obtain ⟨rfl, rfl⟩ := Prod.mk.inj hy
  rw [List.nodup_cons] at hn
  obtain ⟨Fx, hx, nx, sx, hfoc⟩ := Big.focus hR hb hn.2
  refine ⟨v, Fx, hx, nx, fun b hb => ⟨by simp [sx b hb], fun e => hn.1 (e ▸ sx b hb)⟩, fun ok => hm.lookup_hit K ht hk (by simp) ok, fun w' x' Fx' hx' hu => ?_⟩
  obtain ⟨F', hb', hu', hs⟩ := hfoc w' ((k', x'), v) Fx' hx' hu
  have hbm : bm ∉ Fx := fun h => hn.1 (sx _ h)
  obtain ⟨k1, e1⟩ := hu.other (G := [bm]) (by simpa using hbm) (by simpa using hm.lt)
  refine ⟨bm :: F', ⟨L1 ++ ((k', x'), v) :: L2, F', by simp, ?_, hb', rfl⟩, ⟨hu'.mod.mono (fun b _ hb => by simp [hb]), ?_, ?_⟩, ?_⟩
  · have := hm.keep (k1 bm (by simp))
    simpa using this
  · rw [List.nodup_cons]
    refine ⟨fun h => ?_, hu'.nodup⟩
    rcases hs bm h with h | h
    · exact e1 bm (by simp) h
    · exact hn.1 h.1
  · intro b hb
    rcases List.mem_cons.1 hb with rfl | hb
    · exact .inl (by simp)
    · rcases hu'.sub b hb with h | h
      · exact .inl (by simp [h])
      · exact .inr h
  · intro b hb
    rcases List.mem_cons.1 hb with rfl | hb
    · exact .inl (by simp)
    · rcases hs b hb with h | h
      · exact .inr h
      · exact .inl (by simp [h.1])

/-- a new key: the thing that is laid in is one apart from all. -/
theorem MapBig.store_new (hR : Loc (fun x : (κ × ν) × Value => R x.1.2 x.2)) (K : Keyed P kt) (ht : P.underlying t = some (.map kt e)) (h : MapBig P kt kv R bm M w F) (hn : F.Nodup) {k : κ} {l : Lit} (hk : keyOf P kt (kv k) = some l) (hm : ∀ p ∈ M, kv p.1 ≠ kv k)
    {x : ν} {v : Value} {Fx : List Nat} (hx : R x v w Fx) (nx : Fx.Nodup) (dx : ∀ b ∈ Fx, b ∉ F) :
    ∃ o, (Instr.mapUpdate t (.map (some bm)) (kv k) v).run P w = .ok () (setBlock w bm o) ∧ ∃ F', MapBig P kt kv R bm ((k, x) :: M) (setBlock w bm o) F' ∧ F'.Nodup ∧ (∀ b ∈ F', b ∈ F ∨ b ∈ Fx) := by
  obtain ⟨L, G, rfl, hma, hb, rfl⟩ := h
  rw [List.nodup_cons] at hn
  obtain ⟨o, hrun, hma'⟩ := hma.store_new K ht hk (fun p hp => by
    obtain ⟨x, hx, rfl⟩ := List.mem_map.1 hp
    exact hm x.1 (List.mem_map.2 ⟨x, hx, rfl⟩)) v
  have hk1 : ∀ b, b ≠ bm → (setBlock w bm o).heap[b]? = w.heap[b]? := fun b hb => setBlock_other w o (Ne.symm hb)
  refine ⟨o, hrun, bm :: (Fx ++ G), ⟨((k, x), v) :: L, Fx ++ G, by simp, by simpa using hma', ⟨Fx, G, hR.keep (x := ((k, x), v)) hx (fun b hb => hk1 b (by rintro rfl; exact dx b hb (by simp))), (Big.loc hR).keep hb (fun b hb => hk1 b (by rintro rfl; exact hn.1 hb)), rfl⟩, rfl⟩, ?_, ?_⟩
  · rw [List.nodup_cons, List.nodup_append]
    refine ⟨fun h => ?_, nx, hn.2, ?_⟩
    · rcases List.mem_append.1 h with h | h
      · exact dx _ h (by simp)
      · exact hn.1 h
    · intro a ha b hb hab
      subst hab
      exact dx a ha (by simp [hb])
  · intro b hb
    rcases List.mem_cons.1 hb with rfl | hb
    · exact .inl (by simp)
    · rcases List.mem_append.1 hb with h | h
      · exact .inr h
      · exact .inl (by simp [h])

/-- a key goes, and its thing. -/
theorem MapBig.delete_hit (hR : Loc (fun x : (κ × ν) × Value => R x.1.2 x.2)) (K : Keyed P kt) (ht : P.underlying t = some (.map kt e)) {M1 M2 : List (κ × ν)} {k : κ} {x : ν} (h : MapBig P kt kv R bm (M1 ++ (k, x) :: M2) w F) (hn : F.Nodup) {l : Lit} (hk : keyOf P kt (kv k) = some l) (kt' ty : TypeId) :
    ∃ o, (Builtin.delete_ #[t, kt'] ty #[.map (some bm), kv k]).run P w = .ok (.tuple #[]) (setBlock w bm o) ∧ ∃ F', MapBig P kt kv R bm (M1 ++ M2) (setBlock w bm o) F' ∧ F'.Nodup ∧ (∀ b ∈ F', b ∈ F) := by
  obtain ⟨L, G, hL, hm, hb, rfl⟩ := h
  obtain ⟨L1, L2', rfl, hL1, hL2⟩ := List.map_eq_append_iff.1 hL
  obtain ⟨y, L2, rfl, hy, rfl⟩ := List.map_eq_cons_iff.1 hL2
  subst hL1
  obtain ⟨⟨k', x''⟩, v⟩ := y
  obtain ⟨rfl, rfl⟩ := Prod.mk.inj hy
  rw [List.nodup_cons] at hn
  obtain ⟨o, hrun, hm'⟩ := hm.delete_hit (L0 := (L1 ++ L2).map fun x => (kv x.1.1, x.2)) K ht hk (v0 := v) (by simp only [List.map_append, List.map_cons]; exact List.perm_middle) kt' ty
  obtain ⟨Fx, F', hx, hb', n', s', _⟩ := Big.without hR hb hn.2
  have hk1 : ∀ b, b ≠ bm → (setBlock w bm o).heap[b]? = w.heap[b]? := fun b hb => setBlock_other w o (Ne.symm hb)
  refine ⟨o, hrun, bm :: F', ⟨L1 ++ L2, F', by simp, hm', (Big.loc hR).keep hb' (fun b hb => hk1 b (by rintro rfl; exact hn.1 (s' b hb).1)), rfl⟩, ?_, ?_⟩
  · rw [List.nodup_cons]
    exact ⟨fun h => hn.1 (s' bm h).1, n'⟩
  · intro b hb
    rcases List.mem_cons.1 hb with rfl | hb
    · simp
    · simp [(s' b hb).1]

theorem MapBig.delete_miss (hR : Loc (fun x : (κ × ν) × Value => R x.1.2 x.2)) (K : Keyed P kt) (ht : P.underlying t = some (.map kt e)) (h : MapBig P kt kv R bm M w F) (hn : F.Nodup) {k : κ} {l : Lit} (hk : keyOf P kt (kv k) = some l) (hm : ∀ p ∈ M, kv p.1 ≠ kv k) (kt' ty : TypeId) :
    ∃ o, (Builtin.delete_ #[t, kt'] ty #[.map (some bm), kv k]).run P w = .ok (.tuple #[]) (setBlock w bm o) ∧ MapBig P kt kv R bm M (setBlock w bm o) F := by
  obtain ⟨L, G, rfl, hma, hb, rfl⟩ := h
  rw [List.nodup_cons] at hn
  obtain ⟨o, hrun, hma'⟩ := hma.delete_miss K ht hk (fun p hp => by
    obtain ⟨x, hx, rfl⟩ := List.mem_map.1 hp
    exact hm x.1 (List.mem_map.2 ⟨x, hx, rfl⟩)) kt' ty
  exact ⟨o, hrun, L, G, rfl, hma', (Big.loc hR).keep hb (fun b hb => setBlock_other w o (by rintro rfl; exact hn.1 hb)), rfl⟩
end
end Go.Proofs.Ytcdeknbbeghljaa
