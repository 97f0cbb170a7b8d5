/- link: Drop: the range over the map that takes connections away. -/
import Derived.Test.YtcdeknbbeghljaaR6
namespace Go.Proofs.Ytcdeknbbeghljaa
open Go.RowKit
open Link

abbrev Ys := List ((Int × Conn) × Value)
def pairOf (y : (Int × Conn) × Value) : Value × Value := (.int .i64 y.1.1, y.2)
section
variable {w0 w : World} {B : List Res} {p : Nat} {n : Net}
theorem Held.nopen (h : Held w0 w (rNet p n :: B)) : ∃ bm ys, ys.map (·.1) = n.conns ∧ Held w0 w (rBlk p 48 #[.map (some bm), .int .i64 n.last] :: rMapB Try.prog 3 bm (ys.map pairOf) :: rBig connLoc ys :: B) := by
  obtain ⟨x, hx, hh⟩ := Held.turn (l1 := []) (α := Nat × Ys) (q := fun x => x.2.map (·.1) = n.conns) (Rs := [rNet p n]) (Rs' := fun x => [rBlk p 48 #[.map (some x.1), .int .i64 n.last], rMapB Try.prog 3 x.1 (x.2.map pairOf), rBig connLoc x.2]) (l2 := B) h fun F hF nF => by
    obtain ⟨F1, F2, ⟨bm, G, hb, ⟨L, G', hL, hm, hbig, rfl⟩, rfl⟩, h2, rfl⟩ := hF
    have h2' : F2 = [] := h2
    subst h2'
    exact ⟨(bm, L), [p] ++ ([bm] ++ (G' ++ [])), hL, ⟨[p], _, ⟨hb, rfl⟩, ⟨[bm], _, ⟨hm, rfl⟩, ⟨G', [], hbig, rfl, rfl⟩, rfl⟩, rfl⟩, by simpa using nF, fun b hb => by simpa using hb⟩
  exact ⟨x.1, x.2, hx, hh⟩
theorem Held.nshut {bm : Nat} {ys : Ys} (hy : ys.map (·.1) = n.conns) (h : Held w0 w (rBlk p 48 #[.map (some bm), .int .i64 n.last] :: rMapB Try.prog 3 bm (ys.map pairOf) :: rBig connLoc ys :: B)) : Held w0 w (rNet p n :: B) :=
  Held.turn1 (l1 := []) (Rs := [rBlk p 48 #[.map (some bm), .int .i64 n.last], rMapB Try.prog 3 bm (ys.map pairOf), rBig connLoc ys]) (Rs' := [rNet p n]) (l2 := B) h fun F hF nF => by
    obtain ⟨F1, F2, ⟨hb, rfl⟩, ⟨F3, F4, ⟨hm, rfl⟩, ⟨F5, F6, h5, h6, rfl⟩, rfl⟩, rfl⟩ := hF
    have h6' : F6 = [] := h6
    subst h6'
    exact ⟨[p] ++ ([bm] ++ (F5 ++ [])), ⟨p :: bm :: F5, [], ⟨bm, bm :: F5, hb, ⟨ys, F5, hy, hm, h5, rfl⟩, rfl⟩, rfl, by simp⟩, nF, fun b hb => hb⟩
end

/-! ### what a range that deletes leaves -/
structure Swept (ys ys' : Ys) (q : (Int × Conn) × Value → Bool) (todo : List (Value × Value)) : Prop where
  same : ys'.filter q = ys.filter q
  sub : ys'.Sublist ys
  rest : ∀ y ∈ ys', q y = true ∨ pairOf y ∈ todo
  low : ∀ z ∈ todo, z ∈ ys'.map pairOf
  apart : (todo.map (·.1)).Nodup

theorem Swept.start {ys : Ys} {q} (h : (ys.map (·.1.1)).Nodup) : Swept ys ys q (ys.map pairOf) := by
  refine ⟨rfl, List.Sublist.refl _, fun y hy => .inr (List.mem_map_of_mem hy), fun z hz => hz, ?_⟩
  rw [List.map_map]
  have e : (ys.map ((fun x : Value × Value => x.1) ∘ pairOf)) = (ys.map (·.1.1)).map (Value.int .i64) := by rw [List.map_map]; rfl
  rw [e]
  exact h.map _ (fun a b hab he => hab (by injection he))
theorem Swept.done {ys ys' : Ys} {q} (h : Swept ys ys' q []) : ys' = ys.filter q := by
  rw [← h.same]
  refine (List.filter_eq_self.2 fun y hy => ?_).symm
  rcases h.rest y hy with h | h
  · exact h
  · cases h
theorem Swept.perm {ys ys' : Ys} {q} {t t' : List (Value × Value)} (h : Swept ys ys' q t) (hp : t.Perm t') : Swept ys ys' q t' :=
  ⟨h.same, h.sub, fun y hy => (h.rest y hy).imp id fun h => hp.mem_iff.1 h, fun z hz => h.low z (hp.mem_iff.2 hz), (hp.map _).nodup_iff.1 h.apart⟩
section
variable {ys ys' : Ys} {q : (Int × Conn) × Value → Bool} {todo : List (Value × Value)} {y : (Int × Conn) × Value}
theorem pair_inj (h : (ys.map (·.1.1)).Nodup) {x : (Int × Conn) × Value} (hx : x ∈ ys) (hy : y ∈ ys) (e : (pairOf x).1 = (pairOf y).1) : x = y := by
  have e' : x.1.1 = y.1.1 := by injection e
  exact inj_map h hx hy e'
theorem Swept.keep (h : Swept ys ys' q (pairOf y :: todo)) (hn : (ys.map (·.1.1)).Nodup) (hy : y ∈ ys') (hq : q y = true) : Swept ys ys' q todo := by
  refine ⟨h.same, h.sub, fun x hx => ?_, fun z hz => h.low z (by simp [hz]), (List.nodup_cons.1 h.apart).2⟩
  rcases h.rest x hx with h1 | h1
  · exact .inl h1
  · rcases List.mem_cons.1 h1 with h1 | h1
    · left
      rw [pair_inj hn (h.sub.subset hx) (h.sub.subset hy) (by rw [h1])]
      exact hq
    · exact .inr h1
theorem Swept.del {a b : Ys} (h : Swept ys (a ++ y :: b) q (pairOf y :: todo)) (hn : (ys.map (·.1.1)).Nodup) (hq : q y = false) : Swept ys (a ++ b) q todo := by
  have hd := (List.nodup_cons.1 h.apart)
  have hn' : ((a ++ y :: b).map (·.1.1)).Nodup := hn.sublist (h.sub.map _)
  refine ⟨?_, (List.Sublist.append (List.Sublist.refl a) (List.sublist_cons_self y b)).trans h.sub, fun x hx => ?_, fun z hz => ?_, hd.2⟩
  · rw [← h.same, List.filter_append, List.filter_append, List.filter_cons, hq]
    simp
  · have hx' : x ∈ a ++ y :: b := by
      rcases List.mem_append.1 hx with h | h
      · simp [h]
      · simp [h]
    rcases h.rest x hx' with h1 | h1
    · exact .inl h1
    · rcases List.mem_cons.1 h1 with h1 | h1
      · exfalso
        have hxy := pair_inj hn' hx' (show y ∈ a ++ y :: b by simp) (by rw [h1])
        subst hxy
        simp only [List.map_append, List.map_cons, List.nodup_append, List.nodup_cons, List.mem_map, List.mem_cons] at hn'
        rcases List.mem_append.1 hx with h | h
        · exact hn'.2.2 _ ⟨x, h, rfl⟩ _ (.inl rfl) rfl
        · exact hn'.2.1.1 ⟨x, h, rfl⟩
      · exact .inr h1
  · obtain ⟨x, hx, rfl⟩ := List.mem_map.1 (h.low z (by simp [hz]))
    refine List.mem_map_of_mem ?_
    rcases List.mem_append.1 hx with h2 | h2
    · simp [h2]
    · rcases List.mem_cons.1 h2 with rfl | h2
      · exact absurd (List.mem_map.2 ⟨_, hz, rfl⟩) hd.1
      · simp [h2]
end
end Go.Proofs.Ytcdeknbbeghljaa
