/- What a law holds in memory: a list of things, each with a footprint, apart from each other, all new since the law began ('Held'). Nothing of the program. -/
import Derived.Test.YtcdeknbbeghljaaB3
namespace Go.Proofs.Ytcdeknbbeghljaa
open Go.RowKit

/-- A thing in memory. -/
structure Res where
  holds : World → List Nat → Prop
  keep : ∀ {w w' : World} {F : List Nat}, holds w F → (∀ b ∈ F, w'.heap[b]? = w.heap[b]?) → holds w' F
  lt : ∀ {w : World} {F : List Nat}, holds w F → ∀ b ∈ F, b < w.heap.size

theorem Res.loc : Loc (fun (R : Res) => R.holds) where
  keep := fun {R _ _ _} h hk => R.keep h hk
  lt := fun {R _ _} h => R.lt h

def Res.of {α : Type} {R : α → World → List Nat → Prop} (h : Loc R) (x : α) : Res := ⟨R x, fun h1 hk => h.keep h1 hk, fun h1 => h.lt h1⟩
def rOwn (e : TypeId) (v : Value) (xs : List Value) : Res := ⟨Own e 1 v xs.length xs, fun h hk => h.keep hk, fun h => h.lt⟩
def rBlk (b : Nat) (t : TypeId) (cs : Array Value) : Res := ⟨fun w F => Blk w b t cs ∧ F = [b], fun ⟨h, e⟩ hk => ⟨h.of_eq (hk b (by rw [e]; simp)), e⟩, fun {w F} ⟨h, e⟩ k hk => by rw [e] at hk; simp at hk; rw [hk]; exact h.lt⟩

structure Held (w0 w : World) (Rs : List Res) : Prop where
  big : ∃ F, Big (fun (R : Res) => R.holds) Rs w F ∧ F.Nodup ∧ ∀ b ∈ F, w0.heap.size ≤ b
  mod : Mod (fun _ => False) w0 w

theorem Held.begin (w0 : World) : Held w0 w0 [] := ⟨⟨[], rfl, by simp, by simp⟩, Mod.refl _ _⟩
theorem Held.below {w0 w : World} {Rs : List Res} (h : Held w0 w Rs) : Below w0.heap.size w0 w := h.mod.below (Nat.le_refl _) (fun _ _ h => h)
theorem Held.rd {w0 w : World} {Rs : List Res} (h : Held w0 w Rs) {v : Value} {xs : List Value} (hr : Rd (· < w0.heap.size) w0 v xs) : Rd (· < w0.heap.size) w v xs := hr.keep fun b hb _ => h.mod.block b hb (fun h => h)
theorem Held.perm {w0 w : World} {Rs Rs' : List Res} (h : Held w0 w Rs) (hp : Rs.Perm Rs') : Held w0 w Rs' := by
  obtain ⟨⟨F, hb, hn, hl⟩, hm⟩ := h
  obtain ⟨G, hG, hq⟩ := Big.perm hp hb
  exact ⟨⟨G, hG, (hq.nodup_iff).1 hn, fun b hb => hl b (hq.mem_iff.2 hb)⟩, hm⟩

/-- one of them is worked on. -/
theorem Held.use {w0 w : World} {l1 l2 : List Res} {R : Res} (h : Held w0 w (l1 ++ R :: l2)) :
    ∃ F, R.holds w F ∧ F.Nodup ∧ (∀ b ∈ F, w0.heap.size ≤ b) ∧ ∀ (w' : World) (R' : Res) (F' : List Nat), R'.holds w' F' → Upd w w' F F' → Held w0 w' (l1 ++ R' :: l2) := by
  obtain ⟨⟨G, hb, hn, hl⟩, hm⟩ := h
  obtain ⟨F, hR, nF, sF, hf⟩ := Big.focus Res.loc hb hn
  refine ⟨F, hR, nF, fun b hb => hl b (sF b hb), fun w' R' F' hR' hu => ?_⟩
  obtain ⟨G', hb', hu', _⟩ := hf w' R' F' hR' hu
  refine ⟨⟨G', hb', hu'.nodup, fun b hb => ?_⟩, hm.trans hu'.mod (fun b hb h1 => ?_)⟩
  · rcases hu'.sub b hb with h | h
    · exact hl b h
    · exact Nat.le_trans hm.size h
  · have := hl b h1
    omega

/-- something new. -/
theorem Held.more {w0 w w' : World} {Rs : List Res} (h : Held w0 w Rs) {R : Res} {F : List Nat} (hR : R.holds w' F) (hu : Upd w w' [] F) : Held w0 w' (R :: Rs) := by
  obtain ⟨⟨G, hb, hn, hl⟩, hm⟩ := h
  have hlt := (Big.loc Res.loc).lt hb
  obtain ⟨k1, k2⟩ := hu.other (G := G) (by simp) hlt
  refine ⟨⟨F ++ G, ⟨F, G, hR, (Big.loc Res.loc).keep hb k1, rfl⟩, ?_, fun b hb => ?_⟩, hm.trans hu.mod (fun b _ h1 => by cases h1)⟩
  · rw [List.nodup_append]
    exact ⟨hu.nodup, hn, fun a ha b hb e => by subst e; exact k2 a hb ha⟩
  · rcases List.mem_append.1 hb with h | h
    · exact Nat.le_trans hm.size ((hu.sub b h).resolve_left (by simp))
    · exact hl b h

/-- a step that turns nothing of it. -/
theorem Held.step {w0 w w' : World} {Rs : List Res} (h : Held w0 w Rs) (hm' : Mod (fun _ => False) w w') : Held w0 w' Rs := by
  obtain ⟨⟨G, hb, hn, hl⟩, hm⟩ := h
  exact ⟨⟨G, (Big.loc Res.loc).keep hb (fun b hb' => hm'.block b ((Big.loc Res.loc).lt hb b hb') (fun h => h)), hn, hl⟩, hm.trans hm' (fun _ _ h => h)⟩
theorem Held.drewN {w0 w : World} {Rs : List Res} (h : Held w0 w Rs) (n : Nat) : Held w0 (w.drewN n) Rs := h.step ((Mod.refl _ w).drewN n)
theorem Held.alloc {w0 w : World} {Rs : List Res} (h : Held w0 w Rs) (o : Obj) : Held w0 (w.alloc o) Rs := h.step ((Mod.refl _ w).alloc o)
theorem Held.block {w0 w : World} {Rs : List Res} (h : Held w0 w Rs) (t : TypeId) (cs : Array Value) : Held w0 (w.alloc (.cells cs t)) (rBlk w.heap.size t cs :: Rs) :=
  h.more (F := [w.heap.size]) ⟨Blk.new w t cs, rfl⟩ ⟨(Mod.refl _ w).alloc _, by simp, fun b hb => .inr (by simp at hb; omega)⟩

/-- two of them, the second used up, and only the first is worked on: one that is worked on leaves a second thing behind. -/
theorem Held.use2 {w0 w : World} {l1 l2 : List Res} {R : Res} (h : Held w0 w (l1 ++ R :: l2)) :
    ∃ F, R.holds w F ∧ F.Nodup ∧ (∀ b ∈ F, w0.heap.size ≤ b) ∧ ∀ (w' : World) (R' R'' : Res) (F' F'' : List Nat), R'.holds w' F' → R''.holds w' F'' → Upd w w' F (F'' ++ F') → Held w0 w' (l1 ++ R'' :: R' :: l2) := by
  obtain ⟨F, hR, nF, lF, hf⟩ := h.use
  refine ⟨F, hR, nF, lF, fun w' R' R'' F' F'' hR' hR'' hu => ?_⟩
  let Rb : Res := ⟨fun w G => ∃ G1 G2, R''.holds w G1 ∧ R'.holds w G2 ∧ G = G1 ++ G2, fun ⟨G1, G2, h1, h2, e⟩ hk => ⟨G1, G2, R''.keep h1 (fun b hb => hk b (by rw [e]; simp [hb])), R'.keep h2 (fun b hb => hk b (by rw [e]; simp [hb])), e⟩,
    fun {w G} ⟨G1, G2, h1, h2, e⟩ b hb => by
      rw [e] at hb
      rcases List.mem_append.1 hb with h | h
      · exact R''.lt h1 b h
      · exact R'.lt h2 b h⟩
  obtain ⟨⟨G, hb, hn, hl⟩, hm⟩ := hf w' Rb (F'' ++ F') ⟨F'', F', hR'', hR', rfl⟩ hu
  obtain ⟨G1, G2, h1, ⟨Gb, G3, ⟨Ga, Gc, ha, hc, rfl⟩, h3, rfl⟩, rfl⟩ := Big.append.1 hb
  refine ⟨⟨_, Big.append.2 ⟨G1, Ga ++ (Gc ++ G3), h1, ⟨Ga, Gc ++ G3, ha, ⟨Gc, G3, hc, h3, rfl⟩, rfl⟩, rfl⟩, by simpa using hn, fun b hb => hl b (by simpa using hb)⟩, hm⟩

/-- one of them is looked at. -/
theorem Held.get {w0 w : World} {l1 l2 : List Res} {R : Res} (h : Held w0 w (l1 ++ R :: l2)) : ∃ F, R.holds w F := let ⟨F, hR, _⟩ := h.use; ⟨F, hR⟩


/-- one is let go. -/
theorem Held.drop {w0 w : World} {l1 l2 : List Res} {R : Res} (h : Held w0 w (l1 ++ R :: l2)) : Held w0 w (l1 ++ l2) := by
  obtain ⟨⟨G, hb, hn, hl⟩, hm⟩ := h
  obtain ⟨Fx, F', _, hb', hn', hs, _⟩ := Big.without Res.loc hb hn
  exact ⟨⟨F', hb', hn', fun b hb => hl b (hs b hb).1⟩, hm⟩
theorem Held.blk {w0 w : World} {l1 l2 : List Res} {b : Nat} {t : TypeId} {cs : Array Value} (h : Held w0 w (l1 ++ rBlk b t cs :: l2)) : Blk w b t cs := let ⟨_, hF⟩ := h.get; hF.1
theorem Held.store {w0 w : World} {l1 l2 : List Res} {b : Nat} {t : TypeId} {cs : Array Value} (h : Held w0 w (l1 ++ rBlk b t cs :: l2)) (i : Nat) (v : Value) : Held w0 (w.setCell ⟨b, i, none⟩ v) (l1 ++ rBlk b t (cs.setIfInBounds i v) :: l2) := by
  obtain ⟨F, ⟨hb, rfl⟩, nF, _, hback⟩ := h.use
  exact hback _ _ [b] ⟨hb.set i v, rfl⟩ ⟨(Mod.refl _ w).setCell (fun _ => by simp) _, by simp, fun _ h => .inl h⟩
theorem Held.own {w0 w w' : World} {l1 l2 : List Res} {e : TypeId} {v v' : Value} {xs ys : List Value} (h : Held w0 w (l1 ++ rOwn e v xs :: l2)) :
    ∃ F, Own e 1 v xs.length xs w F ∧ ∀ F', Own e 1 v' ys.length ys w' F' → Upd w w' F F' → Held w0 w' (l1 ++ rOwn e v' ys :: l2) := by
  obtain ⟨F, hR, _, _, hback⟩ := h.use
  exact ⟨F, hR, fun F' h1 h2 => hback _ (rOwn e v' ys) F' h1 h2⟩

/-- append onto one of them, for a walk: in a plain region, and in one that draws. -/
theorem wp_append_held {P : Program} {w0 w : World} {o : Oper} {a : Act} {K : Act → World → Prop} {Q : Exit → Act → World → Prop} (l1 l2 : List Res) (s x : Operand) (t : TypeId)
    (ho : o.op = .call { callee := .builtin .append, args := #[s, x], argTypes := #[t, t] })
    (e : TypeId) (i : TypeInfo) (z : Value) (bytes : Nat) (ht : P.underlying t = some (.slice e)) (hi : P.info? e = some i) (hz : i.zero = some z)
    (hsize : i.size = 1) (hby : i.bytes = bytes) (hzs : z.cells.size = 1)
    (v : Value) (xs : List Value) (hs : a.eval s = v) (hh : Held w0 w (l1 ++ rOwn e v xs :: l2))
    (S : Nat → Prop) (u : Value) (news : List Value) (hx : a.eval x = u) (hr : Rd S w u news) (h1 : ∀ x ∈ news, x.oneCell' = true)
    (hbytes : (xs.length + news.length) * bytes ≤ 140737488355328) (h63 : xs.length + news.length ≤ maxLen)
    (h : ∀ A c w', xs.length + news.length ≤ c → c ≤ maxLen → Held w0 w' (l1 ++ rOwn e (.slice A (xs.length + news.length) c) (xs ++ news) :: l2) → K (a.put o.dst (.slice A (xs.length + news.length) c)) w') : o.wp P a w K Q := by
  obtain ⟨F, hR, _, _, hback⟩ := hh.use
  refine wp_append_rd w s x t ho e i z bytes ht hi hz hsize hby hzs v xs.length xs F hs hR S u news hx hr h1 hbytes h63 fun v' w' F' h2 h3 => ?_
  obtain ⟨A, c, rfl, hc, hm, _⟩ := h2.rd
  have hl : (xs ++ news).length = xs.length + news.length := List.length_append
  rw [hl] at hc ⊢
  refine h A c w' hc hm ?_
  have := hback w' (rOwn e (.slice A (xs.length + news.length) c) (xs ++ news)) F' (by
    show Own e 1 _ (xs ++ news).length (xs ++ news) w' F'
    rw [hl] at h2 ⊢; exact h2) h3
  exact this

theorem wpList_append_held {P : Program} {w0 w : World} {ops : Array Oper} {rest : List Oper} {o : Oper} {a : Act} {Q : Exit → Act → World → Prop} (l1 l2 : List Res) (hgd : o.guard = none) (s x : Operand) (t : TypeId)
    (ho : o.op = .call { callee := .builtin .append, args := #[s, x], argTypes := #[t, t] })
    (e : TypeId) (i : TypeInfo) (z : Value) (bytes : Nat) (ht : P.underlying t = some (.slice e)) (hi : P.info? e = some i) (hz : i.zero = some z)
    (hsize : i.size = 1) (hby : i.bytes = bytes) (hzs : z.cells.size = 1)
    (v : Value) (xs : List Value) (hs : a.eval s = v) (hh : Held w0 w (l1 ++ rOwn e v xs :: l2))
    (S : Nat → Prop) (u : Value) (news : List Value) (hx : a.eval x = u) (hr : Rd S w u news) (h1 : ∀ x ∈ news, x.oneCell' = true)
    (hbytes : (xs.length + news.length) * bytes ≤ 140737488355328) (h63 : xs.length + news.length ≤ maxLen)
    (h : ∀ A c w', xs.length + news.length ≤ c → c ≤ maxLen → Held w0 w' (l1 ++ rOwn e (.slice A (xs.length + news.length) c) (xs ++ news) :: l2) → wpList P ops Q rest (a.put o.dst (.slice A (xs.length + news.length) c)) w') : wpList P ops Q (o :: rest) a w :=
  wpList_plain hgd fun _ hK => wp_append_held l1 l2 s x t ho e i z bytes ht hi hz hsize hby hzs v xs hs hh S u news hx hr h1 hbytes h63 fun A c w' h2 h3 h4 => hK _ _ (h A c w' h2 h3 h4)

theorem step_append_held {P : Program} {w0 w : World} {ops : Array Oper} {o : Oper} {a : Act} {K : Act → World → Prop} {Q : Exit → Act → World → Prop} {E : Prop} (l1 l2 : List Res) (hgd : o.guard = none) (s x : Operand) (t : TypeId)
    (ho : o.op = .call { callee := .builtin .append, args := #[s, x], argTypes := #[t, t] })
    (e : TypeId) (i : TypeInfo) (z : Value) (bytes : Nat) (ht : P.underlying t = some (.slice e)) (hi : P.info? e = some i) (hz : i.zero = some z)
    (hsize : i.size = 1) (hby : i.bytes = bytes) (hzs : z.cells.size = 1)
    (v : Value) (xs : List Value) (hs : a.eval s = v) (hh : Held w0 w (l1 ++ rOwn e v xs :: l2))
    (S : Nat → Prop) (u : Value) (news : List Value) (hx : a.eval x = u) (hr : Rd S w u news) (h1 : ∀ x ∈ news, x.oneCell' = true)
    (hbytes : (xs.length + news.length) * bytes ≤ 140737488355328) (h63 : xs.length + news.length ≤ maxLen)
    (h : ∀ A c w', xs.length + news.length ≤ c → c ≤ maxLen → Held w0 w' (l1 ++ rOwn e (.slice A (xs.length + news.length) c) (xs ++ news) :: l2) → K (a.put o.dst (.slice A (xs.length + news.length) c)) w') :
    if Region.wanted o (yielded ops a.tmps) = true then Oper.wp P o a w K Q else E := by
  have hw : Region.wanted o (yielded ops a.tmps) = true := by simp [Region.wanted, hgd]
  rw [if_pos hw]
  exact wp_append_held l1 l2 s x t ho e i z bytes ht hi hz hsize hby hzs v xs hs hh S u news hx hr h1 hbytes h63 h
end Go.Proofs.Ytcdeknbbeghljaa
