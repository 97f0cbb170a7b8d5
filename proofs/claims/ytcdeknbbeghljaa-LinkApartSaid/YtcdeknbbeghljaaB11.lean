/- Held things, one brought to the front; rows read and written. Nothing of the program. (The same laws stand in XF0, XF3, XF7 for the disk; this text serves seats without it.) -/
import Derived.Test.YtcdeknbbeghljaaB10
namespace Go.Proofs.Ytcdeknbbeghljaa
open Go.RowKit

theorem flatten_at {α : Type} {k : Nat} : ∀ {rows : List (List α)} {j m : Nat} {r : List α}, (∀ r ∈ rows, r.length = k) → rows[j]? = some r → m < k → rows.flatten[j * k + m]? = r[m]?
  | [], j, m, r, _, h, _ => by simp at h
  | r0 :: rows, 0, m, r, hl, h, hm => by
    simp at h
    subst h
    rw [List.flatten_cons, Nat.zero_mul, Nat.zero_add, List.getElem?_append_left (by rw [hl r0 (by simp)]; exact hm)]
  | r0 :: rows, j + 1, m, r, hl, h, hm => by
    have h0 := hl r0 (by simp)
    have e : (j + 1) * k + m - r0.length = j * k + m := by rw [h0, Nat.succ_mul]; omega
    rw [List.flatten_cons, List.getElem?_append_right (by rw [h0, Nat.succ_mul]; omega), e]
    exact flatten_at (fun r hr => hl r (by simp [hr])) (by simpa using h) hm

theorem flatten_set {α : Type} {k : Nat} (u : α) : ∀ {rows : List (List α)} {j m : Nat} {r : List α}, (∀ r ∈ rows, r.length = k) → rows[j]? = some r → m < k → (rows.set j (r.set m u)).flatten = rows.flatten.set (j * k + m) u
  | [], j, m, r, _, h, _ => by simp at h
  | r0 :: rows, 0, m, r, hl, h, hm => by
    simp at h
    subst h
    rw [List.set_cons_zero, List.flatten_cons, List.flatten_cons, Nat.zero_mul, Nat.zero_add, List.set_append_left _ _ (by rw [hl r0 (by simp)]; exact hm)]
  | r0 :: rows, j + 1, m, r, hl, h, hm => by
    have h0 := hl r0 (by simp)
    have e : (j + 1) * k + m - r0.length = j * k + m := by rw [h0, Nat.succ_mul]; omega
    rw [List.set_cons_succ, List.flatten_cons, List.flatten_cons, List.set_append_right _ _ (by rw [h0, Nat.succ_mul]; omega), e, flatten_set u (fun r hr => hl r (by simp [hr])) (by simpa using h) hm]

section
variable {w0 w : World} {B : List Res}
theorem Held.pull1 {x0 x1 : Res} (h : Held w0 w (x0 :: x1 :: B)) : Held w0 w (x1 :: x0 :: B) := h.perm (List.perm_middle (l₁ := [x0]))
theorem Held.push1 {x0 x1 : Res} (h : Held w0 w (x1 :: x0 :: B)) : Held w0 w (x0 :: x1 :: B) := h.perm (List.perm_middle (l₁ := [x0])).symm
theorem Held.pull2 {x0 x1 x2 : Res} (h : Held w0 w (x0 :: x1 :: x2 :: B)) : Held w0 w (x2 :: x0 :: x1 :: B) := h.perm (List.perm_middle (l₁ := [x0, x1]))
theorem Held.push2 {x0 x1 x2 : Res} (h : Held w0 w (x2 :: x0 :: x1 :: B)) : Held w0 w (x0 :: x1 :: x2 :: B) := h.perm (List.perm_middle (l₁ := [x0, x1])).symm
theorem Held.pull3 {x0 x1 x2 x3 : Res} (h : Held w0 w (x0 :: x1 :: x2 :: x3 :: B)) : Held w0 w (x3 :: x0 :: x1 :: x2 :: B) := h.perm (List.perm_middle (l₁ := [x0, x1, x2]))
theorem Held.push3 {x0 x1 x2 x3 : Res} (h : Held w0 w (x3 :: x0 :: x1 :: x2 :: B)) : Held w0 w (x0 :: x1 :: x2 :: x3 :: B) := h.perm (List.perm_middle (l₁ := [x0, x1, x2])).symm
theorem Held.pull4 {x0 x1 x2 x3 x4 : Res} (h : Held w0 w (x0 :: x1 :: x2 :: x3 :: x4 :: B)) : Held w0 w (x4 :: x0 :: x1 :: x2 :: x3 :: B) := h.perm (List.perm_middle (l₁ := [x0, x1, x2, x3]))
theorem Held.push4 {x0 x1 x2 x3 x4 : Res} (h : Held w0 w (x4 :: x0 :: x1 :: x2 :: x3 :: B)) : Held w0 w (x0 :: x1 :: x2 :: x3 :: x4 :: B) := h.perm (List.perm_middle (l₁ := [x0, x1, x2, x3])).symm
theorem Held.pull5 {x0 x1 x2 x3 x4 x5 : Res} (h : Held w0 w (x0 :: x1 :: x2 :: x3 :: x4 :: x5 :: B)) : Held w0 w (x5 :: x0 :: x1 :: x2 :: x3 :: x4 :: B) := h.perm (List.perm_middle (l₁ := [x0, x1, x2, x3, x4]))
theorem Held.push5 {x0 x1 x2 x3 x4 x5 : Res} (h : Held w0 w (x5 :: x0 :: x1 :: x2 :: x3 :: x4 :: B)) : Held w0 w (x0 :: x1 :: x2 :: x3 :: x4 :: x5 :: B) := h.perm (List.perm_middle (l₁ := [x0, x1, x2, x3, x4])).symm
theorem Held.pull6 {x0 x1 x2 x3 x4 x5 x6 : Res} (h : Held w0 w (x0 :: x1 :: x2 :: x3 :: x4 :: x5 :: x6 :: B)) : Held w0 w (x6 :: x0 :: x1 :: x2 :: x3 :: x4 :: x5 :: B) := h.perm (List.perm_middle (l₁ := [x0, x1, x2, x3, x4, x5]))
theorem Held.push6 {x0 x1 x2 x3 x4 x5 x6 : Res} (h : Held w0 w (x6 :: x0 :: x1 :: x2 :: x3 :: x4 :: x5 :: B)) : Held w0 w (x0 :: x1 :: x2 :: x3 :: x4 :: x5 :: x6 :: B) := h.perm (List.perm_middle (l₁ := [x0, x1, x2, x3, x4, x5])).symm
theorem Held.pull7 {x0 x1 x2 x3 x4 x5 x6 x7 : Res} (h : Held w0 w (x0 :: x1 :: x2 :: x3 :: x4 :: x5 :: x6 :: x7 :: B)) : Held w0 w (x7 :: x0 :: x1 :: x2 :: x3 :: x4 :: x5 :: x6 :: B) := h.perm (List.perm_middle (l₁ := [x0, x1, x2, x3, x4, x5, x6]))
theorem Held.push7 {x0 x1 x2 x3 x4 x5 x6 x7 : Res} (h : Held w0 w (x7 :: x0 :: x1 :: x2 :: x3 :: x4 :: x5 :: x6 :: B)) : Held w0 w (x0 :: x1 :: x2 :: x3 :: x4 :: x5 :: x6 :: x7 :: B) := h.perm (List.perm_middle (l₁ := [x0, x1, x2, x3, x4, x5, x6])).symm
theorem Held.pull8 {x0 x1 x2 x3 x4 x5 x6 x7 x8 : Res} (h : Held w0 w (x0 :: x1 :: x2 :: x3 :: x4 :: x5 :: x6 :: x7 :: x8 :: B)) : Held w0 w (x8 :: x0 :: x1 :: x2 :: x3 :: x4 :: x5 :: x6 :: x7 :: B) := h.perm (List.perm_middle (l₁ := [x0, x1, x2, x3, x4, x5, x6, x7]))
theorem Held.push8 {x0 x1 x2 x3 x4 x5 x6 x7 x8 : Res} (h : Held w0 w (x8 :: x0 :: x1 :: x2 :: x3 :: x4 :: x5 :: x6 :: x7 :: B)) : Held w0 w (x0 :: x1 :: x2 :: x3 :: x4 :: x5 :: x6 :: x7 :: x8 :: B) := h.perm (List.perm_middle (l₁ := [x0, x1, x2, x3, x4, x5, x6, x7])).symm
theorem Held.pull9 {x0 x1 x2 x3 x4 x5 x6 x7 x8 x9 : Res} (h : Held w0 w (x0 :: x1 :: x2 :: x3 :: x4 :: x5 :: x6 :: x7 :: x8 :: x9 :: B)) : Held w0 w (x9 :: x0 :: x1 :: x2 :: x3 :: x4 :: x5 :: x6 :: x7 :: x8 :: B) := h.perm (List.perm_middle (l₁ := [x0, x1, x2, x3, x4, x5, x6, x7, x8]))
theorem Held.push9 {x0 x1 x2 x3 x4 x5 x6 x7 x8 x9 : Res} (h : Held w0 w (x9 :: x0 :: x1 :: x2 :: x3 :: x4 :: x5 :: x6 :: x7 :: x8 :: B)) : Held w0 w (x0 :: x1 :: x2 :: x3 :: x4 :: x5 :: x6 :: x7 :: x8 :: x9 :: B) := h.perm (List.perm_middle (l₁ := [x0, x1, x2, x3, x4, x5, x6, x7, x8])).symm
theorem Held.pull10 {x0 x1 x2 x3 x4 x5 x6 x7 x8 x9 x10 : Res} (h : Held w0 w (x0 :: x1 :: x2 :: x3 :: x4 :: x5 :: x6 :: x7 :: x8 :: x9 :: x10 :: B)) : Held w0 w (x10 :: x0 :: x1 :: x2 :: x3 :: x4 :: x5 :: x6 :: x7 :: x8 :: x9 :: B) := h.perm (List.perm_middle (l₁ := [x0, x1, x2, x3, x4, x5, x6, x7, x8, x9]))
theorem Held.push10 {x0 x1 x2 x3 x4 x5 x6 x7 x8 x9 x10 : Res} (h : Held w0 w (x10 :: x0 :: x1 :: x2 :: x3 :: x4 :: x5 :: x6 :: x7 :: x8 :: x9 :: B)) : Held w0 w (x0 :: x1 :: x2 :: x3 :: x4 :: x5 :: x6 :: x7 :: x8 :: x9 :: x10 :: B) := h.perm (List.perm_middle (l₁ := [x0, x1, x2, x3, x4, x5, x6, x7, x8, x9])).symm

theorem Held.drop0 {x0 : Res} (h : Held w0 w (x0 :: B)) : Held w0 w B := Held.drop (l1 := []) h
theorem Held.drew (h : Held w0 w B) : Held w0 w.drew B := h.step ((Mod.refl _ _).drew)
theorem Held.blk0 {b : Nat} {t : TypeId} {cs : Array Value} (h : Held w0 w (rBlk b t cs :: B)) : Blk w b t cs := Held.blk (l1 := []) h

theorem Held.row_at {k : Nat} {e : TypeId} {v : Value} {rows : List (List Value)} (h : Held w0 w (rRows k e v rows :: B)) {j : Nat} {r : List Value} (hj : rows[j]? = some r) :
    ∃ g c, v = .slice (some ⟨g, 0, none⟩) rows.length c ∧ rows.length ≤ c ∧ c ≤ 9223372036854775807 ∧ ∀ m u, r[m]? = some u → w.cell? ⟨g, j * k + m, none⟩ = some u := by
  obtain ⟨F, hF⟩ := Held.get (l1 := []) h
  obtain ⟨hl, ⟨⟨h1, h2⟩, -⟩⟩ := hF
  have hjl : j < rows.length := (List.getElem?_eq_some_iff.1 hj).1
  rcases h2 with ⟨rfl, hz⟩ | ⟨g, cap, cur, rfl, -, hg, r1, r2, r3, r4⟩
  · omega
  · refine ⟨g, cap, rfl, r1, by unfold maxLen at r2; exact r2, fun m u hu => ?_⟩
    have hm : m < k := by
      have := (List.getElem?_eq_some_iff.1 hu).1
      rwa [hl r (List.mem_of_getElem? hj)] at this
    have hf := flatten_at hl hj hm
    rw [hu, ← r4, List.getElem?_take] at hf
    split at hf
    · simp only [World.cell?, hg, Option.isSome_none, Bool.false_eq_true, if_false]
      simpa using hf
    · cases hf

theorem Held.row_store {k : Nat} {e : TypeId} {g c nr : Nat} {rows : List (List Value)} (hnr : rows.length = nr) (h : Held w0 w (rRows k e (.slice (some ⟨g, 0, none⟩) nr c) rows :: B)) {j : Nat} {r : List Value} (hj : rows[j]? = some r) {m : Nat} (hm : m < k) (u : Value) :
    Held w0 (w.setCell ⟨g, j * k + m, none⟩ u) (rRows k e (.slice (some ⟨g, 0, none⟩) nr c) (rows.set j (r.set m u)) :: B) ∧ w.frozen? ⟨g, j * k + m, none⟩ = false := by
  subst hnr
  obtain ⟨F, ⟨hl, hown, hF⟩, nF, -, hback⟩ := Held.use (l1 := []) h
  have hjl : j < rows.length := (List.getElem?_eq_some_iff.1 hj).1
  obtain ⟨h1, h2⟩ := hown
  rcases h2 with ⟨hv, hz⟩ | ⟨g', cap, cur, hv, hb, hg, r1, r2, r3, r4⟩
  · omega
  · injection hv with e1 e2 e3
    injection e1 with e1
    injection e1 with e1
    subst e1 e3
    have hfz : w.frozen? ⟨g, j * k + m, none⟩ = false := by simp [World.frozen?, hg]
    refine ⟨hback _ (rRows k e (.slice (some ⟨g, 0, none⟩) rows.length c) (rows.set j (r.set m u))) F ⟨?_, ⟨?_, .inr ⟨g, c, cur.setIfInBounds (j * k + m) u, by rw [List.length_set], hb, ?_, by rw [List.length_set]; exact r1, r2, by simpa using r3, ?_⟩⟩, hF⟩ ⟨(Mod.refl _ w).setCell (fun _ => by rw [hF]; simp [Value.ownBlock]) _, nF, fun b hb => .inl hb⟩, hfz⟩
    · intro r' hr'
      rcases List.mem_or_eq_of_mem_set hr' with h | h
      · exact hl r' h
      · rw [h, List.length_set]; exact hl r (List.mem_of_getElem? hj)
    · rw [flatten_set u hl hj hm, List.length_set, List.length_set]; exact h1
    · simp [World.setCell, Array.getElem?_modify, hg]
    · rw [flatten_set u hl hj hm, List.length_set, Array.toList_setIfInBounds, List.take_set, r4]
theorem Held.rows_nil (h : Held w0 w B) (k : Nat) (e : TypeId) : Held w0 w (rRows k e (.slice none 0 0) [] :: B) :=
  h.more (F := []) ⟨by simp, Own.nil _ _ _⟩ (Upd.refl _ (by simp))
theorem Held.own_nil (h : Held w0 w B) (e : TypeId) : Held w0 w (rOwn e (.slice none 0 0) [] :: B) := h.nil_own e
/-- a cell of an owned row. -/
theorem Held.own_at {e : TypeId} {v : Value} {xs : List Value} (h : Held w0 w (rOwn e v xs :: B)) {k : Nat} {u : Value} (hk : xs[k]? = some u) : ∃ g c, v = .slice (some ⟨g, 0, none⟩) xs.length c ∧ xs.length ≤ c ∧ c ≤ 9223372036854775807 ∧ w.cell? ⟨g, k, none⟩ = some u := by
  obtain ⟨F, hF⟩ := Held.get (l1 := []) h
  obtain ⟨⟨h1, h2⟩, -⟩ := hF
  have hkl : k < xs.length := (List.getElem?_eq_some_iff.1 hk).1
  rcases h2 with ⟨rfl, hz⟩ | ⟨g, cap, cur, rfl, -, hg, r1, r2, r3, r4⟩
  · omega
  · refine ⟨g, cap, rfl, r1, by unfold maxLen at r2; exact r2, ?_⟩
    rw [← r4, List.getElem?_take] at hk
    split at hk
    · simp only [World.cell?, hg, Option.isSome_none, Bool.false_eq_true, if_false]
      simpa using hk
    · cases hk
theorem Held.own_form0 {e : TypeId} {v : Value} {xs : List Value} (h : Held w0 w (rOwn e v xs :: B)) : ∃ A c, v = .slice A xs.length c ∧ xs.length ≤ c ∧ c ≤ 9223372036854775807 := by
  obtain ⟨A, c, hv, hc, hm, -⟩ := Held.own_rd (l1 := []) h
  exact ⟨A, c, hv, hc, by unfold maxLen at hm; exact hm⟩
end
end Go.Proofs.Ytcdeknbbeghljaa
