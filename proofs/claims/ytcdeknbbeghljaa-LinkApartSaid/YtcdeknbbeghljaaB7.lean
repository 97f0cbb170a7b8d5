/- Maps among held things: the map's block by itself ('rMapB'), its elements beside it; ranges; rows of structs. Nothing of the program. -/
import Derived.Test.YtcdeknbbeghljaaB6
namespace Go.Proofs.Ytcdeknbbeghljaa
open Go.RowKit
open Go.ChangeMaps (setBlock)
open Go.Maps (Keyed)

def rMapB (P : Program) (kt : TypeId) (bm : Nat) (L : List (Value × Value)) : Res :=
  ⟨fun w F => MapAt P kt w bm L ∧ F = [bm], fun ⟨h, e⟩ hk => ⟨h.keep (hk bm (by rw [e]; simp)), e⟩, fun {w F} ⟨h, e⟩ k hk => by rw [e] at hk; simp at hk; rw [hk]; exact h.lt⟩
def rIter (P : Program) (kt : TypeId) (r bm : Nat) (L todo : List (Value × Value)) : Res :=
  ⟨fun w F => IterAt P kt w r bm L todo ∧ F = [bm, r], fun ⟨h, e⟩ hk => ⟨h.keep (hk bm (by rw [e]; simp)) (hk r (by rw [e]; simp)), e⟩, fun {w F} ⟨h, e⟩ k hk => by
    rw [e] at hk
    simp at hk
    rcases hk with rfl | rfl
    · exact h.map.lt
    · exact h.lt⟩

section
variable {w0 w : World} {A B : List Res} {P : Program} {kt t e : TypeId} {bm : Nat} {L L' L0 todo : List (Value × Value)}

theorem Held.mapAt (h : Held w0 w (A ++ rMapB P kt bm L :: B)) : MapAt P kt w bm L := let ⟨_, hF⟩ := h.get; hF.1
theorem Held.map_perm (h : Held w0 w (A ++ rMapB P kt bm L :: B)) (hp : L.Perm L') : Held w0 w (A ++ rMapB P kt bm L' :: B) := by
  obtain ⟨F, ⟨hm, rfl⟩, nF, _, hb⟩ := h.use
  exact hb w _ [bm] ⟨hm.perm hp, rfl⟩ (Upd.refl _ nF)

theorem Held.setBlock (h : Held w0 w (A ++ rMapB P kt bm L :: B)) {o : Obj} (hm : MapAt P kt (setBlock w bm o) bm L') : Held w0 (setBlock w bm o) (A ++ rMapB P kt bm L' :: B) := by
  obtain ⟨F, ⟨_, rfl⟩, nF, _, hb⟩ := h.use
  exact hb _ _ [bm] ⟨hm, rfl⟩ ⟨(Mod.refl _ w).setBlock (fun _ => by simp) _, by simp, fun _ h => .inl h⟩

theorem Held.map_made {Rs : List Res} (h : Held w0 w Rs) (P : Program) (kt : TypeId) : Held w0 (w.alloc (.map #[] 0)) (rMapB P kt w.heap.size [] :: Rs) :=
  h.more (F := [w.heap.size]) ⟨MapAt.made P kt w, rfl⟩ ⟨(Mod.refl _ w).alloc _, by simp, fun b hb => .inr (by simp at hb; omega)⟩

theorem Held.map_new (K : Keyed P kt) (ht : P.underlying t = some (.map kt e)) (h : Held w0 w (A ++ rMapB P kt bm L :: B)) {k : Value} {l : Lit} (hk : keyOf P kt k = some l) (hm : ∀ p ∈ L, p.1 ≠ k) (v : Value) :
    ∃ w', (Instr.mapUpdate t (.map (some bm)) k v).run P w = .ok () w' ∧ Held w0 w' (A ++ rMapB P kt bm ((k, v) :: L) :: B) := by
  obtain ⟨o, hrun, hm'⟩ := h.mapAt.store_new K ht hk hm v
  exact ⟨_, hrun, h.setBlock hm'⟩
theorem Held.map_old (K : Keyed P kt) (ht : P.underlying t = some (.map kt e)) (h : Held w0 w (A ++ rMapB P kt bm L :: B)) {k v0 : Value} {l : Lit} (hk : keyOf P kt k = some l) (hp : L.Perm ((k, v0) :: L0)) (v : Value) :
    ∃ w', (Instr.mapUpdate t (.map (some bm)) k v).run P w = .ok () w' ∧ Held w0 w' (A ++ rMapB P kt bm ((k, v) :: L0) :: B) := by
  obtain ⟨o, hrun, hm'⟩ := h.mapAt.store_old K ht hk hp v
  exact ⟨_, hrun, h.setBlock hm'⟩
theorem Held.map_del (K : Keyed P kt) (ht : P.underlying t = some (.map kt e)) (h : Held w0 w (A ++ rMapB P kt bm L :: B)) {k v0 : Value} {l : Lit} (hk : keyOf P kt k = some l) (hp : L.Perm ((k, v0) :: L0)) (kt' : TypeId) :
    ∃ w', (∀ ty, (Builtin.delete_ #[t, kt'] ty #[.map (some bm), k]).run P w = .ok (.tuple #[]) w') ∧ Held w0 w' (A ++ rMapB P kt bm L0 :: B) := by
  obtain ⟨o, hrun, hm'⟩ := h.mapAt.delete_hit K ht hk hp kt' 0
  exact ⟨_, fun ty => hrun, h.setBlock hm'⟩
theorem Held.map_nodel (K : Keyed P kt) (ht : P.underlying t = some (.map kt e)) (h : Held w0 w (A ++ rMapB P kt bm L :: B)) {k : Value} {l : Lit} (hk : keyOf P kt k = some l) (hm : ∀ p ∈ L, p.1 ≠ k) (kt' : TypeId) :
    ∃ w', (∀ ty, (Builtin.delete_ #[t, kt'] ty #[.map (some bm), k]).run P w = .ok (.tuple #[]) w') ∧ Held w0 w' (A ++ rMapB P kt bm L :: B) := by
  obtain ⟨o, hrun, hm'⟩ := h.mapAt.delete_miss K ht hk hm kt' 0
  exact ⟨_, fun ty => hrun, h.setBlock hm'⟩

theorem MapAt.run_clear (ht : P.underlying t = some (.map kt e)) (h : MapAt P kt w bm L) (ty : TypeId) :
    ∃ o, (Builtin.clear_ #[t] ty #[.map (some bm)]).run P w = .ok (.tuple #[]) (setBlock w bm o) ∧ MapAt P kt (setBlock w bm o) bm [] := by
  have hlt := h.lt
  obtain ⟨es, clk, hb, hi⟩ := h
  refine ⟨.map #[] clk, ?_, #[], clk, setBlock_at w _ hlt, ⟨by simp, by simp, by simp, by simp, by simp [entL]⟩⟩
  simp [Builtin.clear_, run_underlying ht, MapKept.run_getObj_map hb, MapKept.run_setObj_map _ hb, Result.andThen, setBlock]
theorem Held.map_clear (ht : P.underlying t = some (.map kt e)) (h : Held w0 w (A ++ rMapB P kt bm L :: B)) :
    ∃ w', (∀ ty, (Builtin.clear_ #[t] ty #[.map (some bm)]).run P w = .ok (.tuple #[]) w') ∧ Held w0 w' (A ++ rMapB P kt bm [] :: B) := by
  obtain ⟨o, hrun, hm'⟩ := h.mapAt.run_clear ht 0
  exact ⟨_, fun ty => hrun, h.setBlock hm'⟩

/-! ### ranges -/
theorem Held.iterAt {r : Nat} (h : Held w0 w (A ++ rIter P kt r bm L todo :: B)) : IterAt P kt w r bm L todo := let ⟨_, hF⟩ := h.get; hF.1
theorem Held.range (ht : P.underlying t = some (.map kt e)) (h : Held w0 w (A ++ rMapB P kt bm L :: B)) :
    ∃ w', (Instr.range t (.map (some bm))).run P w = .ok (.pointer (some ⟨w.heap.size, 0, none⟩)) w' ∧ Held w0 w' (A ++ rIter P kt w.heap.size bm L L :: B) := by
  obtain ⟨o, hrun, hi⟩ := h.mapAt.run_range ht
  obtain ⟨F, ⟨hm, rfl⟩, nF, _, hb⟩ := h.use
  refine ⟨_, hrun, hb _ _ [bm, w.heap.size] ⟨hi, rfl⟩ ⟨(Mod.refl _ w).alloc _, ?_, fun b hb => ?_⟩⟩
  · have := hm.lt
    simp; omega
  · simp at hb
    rcases hb with rfl | rfl
    · exact .inl (by simp)
    · exact .inr (Nat.le_refl _)
theorem Held.next {r : Nat} (h : Held w0 w (A ++ rIter P kt r bm L todo :: B)) (ty : TypeId) :
    (todo = [] ∧ (Instr.next (.pointer (some ⟨r, 0, none⟩)) false ty).run P w = .ok (.tuple #[.bool false]) w) ∨
    ∃ k v w', (Instr.next (.pointer (some ⟨r, 0, none⟩)) false ty).run P w = .ok (.tuple #[.bool true, k, v]) w' ∧ ∃ todo', todo.Perm ((k, v) :: todo') ∧ (k, v) ∈ L ∧ (Instr.entry (.pointer (some ⟨r, 0, none⟩))).run P w' = .ok (.tuple #[k, v]) w' ∧ Held w0 w' (A ++ rIter P kt r bm L todo' :: B) := by
  rcases h.iterAt.run_next ty with ⟨h1, h2⟩ | ⟨k, v, todo', w', h1, h2, h3, h4, h5, h6, h7⟩
  · exact .inl ⟨h1, h2⟩
  · refine .inr ⟨k, v, w', h3, todo', h1, h2, h7, ?_⟩
    obtain ⟨F, ⟨hm, rfl⟩, nF, _, hb⟩ := h.use
    exact hb _ _ [bm, r] ⟨h4, rfl⟩ ⟨h5.mono (fun b _ hb => by simp [hb]), nF, fun _ h => .inl h⟩
theorem Held.range_end {r : Nat} (h : Held w0 w (A ++ rIter P kt r bm L todo :: B)) : Held w0 w (A ++ rMapB P kt bm L :: B) :=
  Held.turn1 (Rs := [rIter P kt r bm L todo]) (Rs' := [rMapB P kt bm L]) h fun F hF nF => by
    obtain ⟨F1, F2, ⟨h1, rfl⟩, h2, rfl⟩ := hF
    exact ⟨[bm] ++ [], ⟨[bm], [], ⟨h1.map, rfl⟩, rfl, rfl⟩, by simp, fun b hb => by simp at hb; simp [hb]⟩

/-- a key of the map goes that has come already. -/
theorem IterAt.delete (K : Keyed P kt) (ht : P.underlying t = some (.map kt e)) {r : Nat} (h : IterAt P kt w r bm L todo) {k v0 : Value} {l : Lit} (hk : keyOf P kt k = some l) (hp : L.Perm ((k, v0) :: L0)) (hd : ∀ p ∈ todo, p.1 ≠ k) (kt' ty : TypeId) :
    ∃ o, (Builtin.delete_ #[t, kt'] ty #[.map (some bm), k]).run P w = .ok (.tuple #[]) (setBlock w bm o) ∧ IterAt P kt (setBlock w bm o) r bm L0 todo := by
  have hne := h.ne
  have hlt := h.map.lt
  have hn := h.map.nodup
  obtain ⟨es, clk, since, seen, c0, hb, hr, hi, hl, ho, hs, hsc⟩ := h
  have hmem : (k, v0) ∈ L := hp.mem_iff.2 (by simp)
  rcases hi.find K w hk with ⟨_, h2⟩ | ⟨j, e0, h1, h2, h3, h4⟩
  · exact absurd rfl (h2 _ hmem)
  · have hv0 : v0 = e0.val := uniq_val hn hmem h4
    have hel : (es.eraseIdxIfInBounds j).toList = es.toList.eraseIdx j := by
      unfold Array.eraseIdxIfInBounds
      split
      · simp
      · rename_i hj
        rw [List.eraseIdx_of_length_le (by simpa using hj)]
    have hseen : seen.contains e0.born = true := by
      by_cases hc : seen.contains e0.born = true
      · exact hc
      · exfalso
        have hm0 : e0 ∈ es.toList := List.mem_of_getElem? h2
        have : (e0.key, e0.val) ∈ todo := hl.mem_iff.1 (List.mem_map.2 ⟨e0, by rw [toList_leftOf]; exact List.mem_filter.2 ⟨hm0, by simpa using hc⟩, rfl⟩)
        exact hd _ this h3
    refine ⟨.map (es.eraseIdxIfInBounds j) clk, ?_, es.eraseIdxIfInBounds j, clk, since, seen, c0, setBlock_at w _ hlt, by rw [setBlock_other w _ (Ne.symm hne)]; exact hr, hi.erase h2 (by rw [h3, ← hv0]; exact hp), ?_, fun x hx => ho x (by rw [hel] at hx; exact (List.eraseIdx_sublist _ _).subset hx), hs, hsc⟩
    · simp [Builtin.delete_, run_underlying ht, MapKept.run_getObj_map hb, K.check w _ hk, h1, MapKept.run_setObj_map _ hb, Result.andThen, setBlock]
    · refine List.Perm.trans (.of_eq ?_) hl
      unfold entL
      rw [toList_leftOf, toList_leftOf, hel]
      congr 1
      have hj : j < es.toList.length := (List.getElem?_eq_some_iff.1 h2).1
      have hx : es.toList[j] = e0 := (List.getElem?_eq_some_iff.1 h2).2
      conv => rhs; rw [← List.take_append_drop j es.toList, List.drop_eq_getElem_cons hj, hx]
      rw [List.eraseIdx_eq_take_drop_succ, List.filter_append, List.filter_append, List.filter_cons, hseen]
      simp
theorem Held.iter_del (K : Keyed P kt) (ht : P.underlying t = some (.map kt e)) {r : Nat} (h : Held w0 w (A ++ rIter P kt r bm L todo :: B)) {k v0 : Value} {l : Lit} (hk : keyOf P kt k = some l) (hp : L.Perm ((k, v0) :: L0)) (hd : ∀ p ∈ todo, p.1 ≠ k) (kt' : TypeId) :
    ∃ w', (∀ ty, (Builtin.delete_ #[t, kt'] ty #[.map (some bm), k]).run P w = .ok (.tuple #[]) w') ∧ Held w0 w' (A ++ rIter P kt r bm L0 todo :: B) := by
  obtain ⟨o, hrun, hi⟩ := h.iterAt.delete K ht hk hp hd kt' 0
  obtain ⟨F, ⟨_, rfl⟩, nF, _, hb⟩ := h.use
  exact ⟨_, fun ty => hrun, hb _ _ [bm, r] ⟨hi, rfl⟩ ⟨(Mod.refl _ w).setBlock (fun _ => by simp) _, nF, fun _ h => .inl h⟩⟩
end

/-! ### rows of structs, k cells each -/
def rRows (k : Nat) (e : TypeId) (v : Value) (rows : List (List Value)) : Res :=
  ⟨fun w F => (∀ r ∈ rows, r.length = k) ∧ Own e k v rows.length rows.flatten w F, fun ⟨h0, h⟩ hk => ⟨h0, h.keep hk⟩, fun ⟨_, h⟩ => h.lt⟩
end Go.Proofs.Ytcdeknbbeghljaa
