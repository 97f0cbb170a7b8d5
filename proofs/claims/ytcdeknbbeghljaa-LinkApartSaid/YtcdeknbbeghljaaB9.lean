/- append(v, make([]T, m)...) onto an owned row of one-cell elements. Nothing of the program. -/
import Derived.Test.YtcdeknbbeghljaaB8
import Derived.Lib.AppendZeros
namespace Go.Proofs.Ytcdeknbbeghljaa
open Go.RowKit

section
variable {P : Program} (w : World)

theorem zeroCells_one (z : Value) (hz1 : z.cells = #[z]) (m : Nat) : Builtin.zeroCells z.cells m = (List.replicate m z).toArray := by
  rw [hz1]
  apply Array.ext'
  simp [Builtin.zeroCells]
  apply List.ext_getElem
  · simp
  · intro k h1 h2
    simp [Nat.mod_one]

theorem run_append_zeros (t tn ty e : TypeId) (i : TypeInfo) (z : Value) (k kn : IntKind) (bytes : Nat) (ht : P.underlying t = some (.slice e)) (htn : P.underlying tn = some (.int kn)) (hi : P.info? e = some i) (hz : i.zero = some z)
    (hsize : i.size = 1) (hby : i.bytes = bytes) (hz1 : z.cells = #[z]) (hzo : z.oneCell' = true)
    (v : Value) (xs : List Value) (F : List Nat) (hown : Own e 1 v xs.length xs w F) (m : Nat) (h63 : xs.length + m ≤ maxLen) (hbytes : (xs.length + m) * bytes ≤ 140737488355328) :
    ∃ v' w' F', (Builtin.append_ #[t, tn] ty #[v, .int k m]).run P w = .ok v' w' ∧ Own e 1 v' (xs.length + m) (xs ++ List.replicate m z) w' F' ∧ Upd w w' F F' := by
  obtain ⟨hrow, rfl⟩ := hown
  subst hby
  unfold maxLen at h63
  have hlen : (xs ++ List.replicate m z).length = (xs.length + m) * 1 := by simp
  have fin : ∀ (v' : Value) (w' : World), w'.ownsRow 0 e 1 v' (xs.length + m) (xs ++ List.replicate m z) → w.grownBy w' v.ownBlock → (v'.ownBlock = v.ownBlock ∨ v'.ownBlock = some w.heap.size) → Upd w w' v.ownBlock.toList v'.ownBlock.toList := by
    intro v' w' _ h3 h5
    refine ⟨Mod.of_grownBy h3 (fun k hk _ => by simpa using hk), by cases v'.ownBlock <;> simp, fun b hb => ?_⟩
    rcases h5 with h5 | h5
    · rw [h5] at hb; exact .inl hb
    · rw [h5] at hb; simp at hb; exact .inr (by omega)
  have hw : IntKind.i64.wrap (m : Int) = m := by rw [IntKind.wrap_i64]; omega
  have hneg : ¬ ((m : Int) < 0) := by omega
  have hmb : m * i.bytes ≤ 140737488355328 := Nat.le_trans (Nat.mul_le_mul_right _ (by omega)) hbytes
  have h48i : ¬ (281474976710656 < (m : Int) * (i.bytes : Int)) := by rw [← Int.natCast_mul]; omega
  rcases hrow.2 with ⟨rfl, hz0⟩ | ⟨g, cap, cur, rfl, hbg, hg, hnc, hcm, hcs, htake⟩
  · have hx : xs = [] := List.eq_nil_of_length_eq_zero (by simpa using hz0)
    subst hx
    by_cases hm : m = 0
    · subst hm
      refine ⟨.slice none 0 0, w, [], ?_, Own.nil _ _ _, Upd.refl _ List.nodup_nil⟩
      have hw0 : IntKind.i64.wrap 0 = 0 := rfl
      simp [Builtin.append_, run_underlying ht, run_underlying htn, sizeOf, typeInfo, hi, asInt, asIntOf, hw0]
    · have hr := Lib.run_append_nil_zeros (P := P) w t tn ty e i z k kn ht htn hi hz m (by omega) (by omega) (by omega) (by omega)
      refine ⟨_, _, _, hr, ⟨?_, rfl⟩, fin _ _ ?_ ?_ (.inr rfl)⟩
      all_goals first
        | (refine ⟨by simp, .inr ⟨w.heap.size, _, _, by simp, Nat.zero_le _, heap_alloc_new w.drew _, by have := grownCap_ge w m 0 e; simpa using this, grownCap_le_maxLen w m 0 e (by unfold maxLen; omega), ?_, ?_⟩⟩
           · have := grownCap_ge w m 0 e
             simp only [Array.size_append, size_zeroCells, hz1]
             simp
             omega
           · rw [zeroCells_one z hz1]
             simp)
        | exact ⟨rfl, rfl, rfl, by simp, fun b hb _ => Below.heap_alloc w.drew _ b hb⟩
  · by_cases hroom : xs.length + m ≤ cap
    · have hst := run_storeCells_at P g xs.length e (List.replicate m z) 0 cur w hg (by simp; omega) (fun u hu => by rw [List.eq_of_mem_replicate hu]; exact hzo)
      simp only [Nat.add_zero] at hst
      have hr : (Builtin.append_ #[t, tn] ty #[.slice (some ⟨g, 0, none⟩) xs.length cap, .int k m]).run P w =
          .ok (.slice (some ⟨g, 0, none⟩) (xs.length + m) cap) (w.setRow g (cur.toList.take xs.length ++ List.replicate m z ++ cur.toList.drop (xs.length + (List.replicate m z).length)).toArray) := by
        by_cases hm : m = 0
        · subst hm
          have h48z : ¬ (281474976710656 < (0 : Int) * (i.bytes : Int)) := by simp
          have hw0 : IntKind.i64.wrap 0 = 0 := rfl
          have hroom0 : xs.length ≤ cap := hroom
          simp only [List.replicate_zero] at hst ⊢
          simp [Builtin.append_, run_underlying ht, run_underlying htn, sizeOf, typeInfo, hi, hsize, asInt, asIntOf, hw0, hroom0, Addr.add_lit] at hst ⊢
          rw [hst]
          rfl
        · simp [Builtin.append_, run_underlying ht, run_underlying htn, sizeOf, typeInfo, zeroValue, hi, hz, hsize, asInt, asIntOf, hw, hneg, h48i, hm, hroom, Addr.add_lit, zeroCells_one z hz1] at hst ⊢
          rw [hst]
          rfl
      refine ⟨_, _, _, hr, ⟨?_, rfl⟩, fin _ _ ?_ ?_ (.inl rfl)⟩
      all_goals first
        | (refine ⟨hlen, .inr ⟨g, cap, _, rfl, hbg, setRow_heap w g cur _ e _ hg, hroom, hcm, ?_, ?_⟩⟩
           · simp only [List.size_toArray, List.length_append, List.length_take, List.length_drop, Array.length_toList, List.length_replicate]
             omega
           · rw [Nat.mul_one] at htake
             rw [htake, ← hlen]
             exact List.take_left)
        | exact ⟨rfl, rfl, rfl, by simp [World.setRow], fun k _ hk => setRow_other w g k _ (fun e => hk (by simp [Value.ownBlock, e]))⟩
    · have hg0 : ¬ (xs.length + m ≤ cap) := hroom
      have hm : m ≠ 0 := by omega
      have h63' : ¬ (9223372036854775807 < ((xs.length : Int) + (m : Int))) := by omega
      have h48' : ¬ (281474976710656 < Builtin.nextslicecap (xs.length + m) cap * i.bytes) := by have := growslice_fits (need := xs.length + m) (old := cap) (bytes := i.bytes) (by omega) hbytes; omega
      have holds : ∀ j u, xs[j]? = some u → w.cell? ((⟨g, 0, none⟩ : Addr).add j) = some u := hrow.cells (g := g) rfl
      have hfo := run_firstCells_some (P := P) w.drew i.size xs.length ⟨g, 0, none⟩ xs.length cap xs (by rw [hsize]; omega) (by simpa using holds)
      have hr : (Builtin.append_ #[t, tn] ty #[.slice (some ⟨g, 0, none⟩) xs.length cap, .int k m]).run P w =
          .ok (.slice (some ⟨w.heap.size, 0, none⟩) (xs.length + m) (grownCap w (xs.length + m) cap e))
            (w.drew.alloc (.cells (xs.toArray ++ (List.replicate m z).toArray ++ Builtin.zeroCells z.cells (grownCap w (xs.length + m) cap e - (xs.length + m))) e)) := by
        simp [Builtin.append_, run_underlying ht, run_underlying htn, sizeOf, typeInfo, zeroValue, hi, hz, asInt, asIntOf, hw, hneg, h48i, hm, hg0, h63', h48', hsize, Question.forced, newRow, grownCap, zeroCells_one z hz1] at hfo ⊢
        rw [hfo]
        simp [Result.andThen, newRow]
      refine ⟨_, _, _, hr, ⟨?_, rfl⟩, fin _ _ ?_ ?_ (.inr rfl)⟩
      all_goals first
        | (have hge := grownCap_ge w (xs.length + m) cap e
           refine ⟨hlen, .inr ⟨w.heap.size, _, _, rfl, Nat.zero_le _, heap_alloc_new w.drew _, hge, grownCap_le_maxLen w (xs.length + m) cap e (by unfold maxLen; omega), ?_, ?_⟩⟩
           · simp only [Array.size_append, List.size_toArray, size_zeroCells, hz1, List.length_replicate]
             simp
             omega
           · simp only [Array.toList_append]
             rw [← hlen]
             exact List.take_left)
        | exact ⟨rfl, rfl, rfl, by simp, fun b hb _ => Below.heap_alloc w.drew _ b hb⟩

theorem wp_zeros_held {w0 : World} {o : Oper} {a : Act} {K : Act → World → Prop} {Q : Exit → Act → World → Prop} (l1 l2 : List Res) (s x : Operand) (t tn : TypeId)
    (ho : o.op = .call { callee := .builtin .append, args := #[s, x], argTypes := #[t, tn] })
    (e : TypeId) (i : TypeInfo) (z : Value) (k kn : IntKind) (bytes : Nat) (ht : P.underlying t = some (.slice e)) (htn : P.underlying tn = some (.int kn)) (hi : P.info? e = some i) (hz : i.zero = some z)
    (hsize : i.size = 1) (hby : i.bytes = bytes) (hz1 : z.cells = #[z]) (hzo : z.oneCell' = true)
    (v : Value) (xs : List Value) (nx : Nat) (hnx : xs.length = nx) (hs : a.eval s = v) (hh : Held w0 w (l1 ++ rOwn e v xs :: l2)) (m : Nat) (hx : a.eval x = .int k m) (h63 : nx + m ≤ maxLen) (hbytes : (nx + m) * bytes ≤ 140737488355328)
    (h : ∀ A c w', Held w0 w' (l1 ++ rOwn e (.slice A (nx + m) c) (xs ++ List.replicate m z) :: l2) → K (a.put o.dst (.slice A (nx + m) c)) w') : o.wp P a w K Q := by
  subst hnx
  obtain ⟨F, hF, nF, _, hb⟩ := hh.use
  obtain ⟨v', w', F', hrun, h2, h3⟩ := run_append_zeros (P := P) w t tn o.type e i z k kn bytes ht htn hi hz hsize hby hz1 hzo v xs F hF m h63 hbytes
  obtain ⟨A, c, rfl⟩ := h2.form
  unfold Oper.wp execOp
  simp only [ho, resolve, invoke, builtin, Sem.run_bind, Sem.run_pure, Result.andThen_ok, List.map_toArray, List.map_cons, List.map_nil, hs, hx, hrun]
  refine h A c w' (hb w' (rOwn e _ (xs ++ List.replicate m z)) F' ?_ h3)
  show Own e 1 _ (xs ++ List.replicate m z).length _ _ _
  rw [List.length_append, List.length_replicate]
  exact h2

theorem step_zeros_held {w0 : World} {ops : Array Oper} {o : Oper} {a : Act} {K : Act → World → Prop} {Q : Exit → Act → World → Prop} {E : Prop} (l1 l2 : List Res) (hgd : o.guard = none) (s x : Operand) (t tn : TypeId)
    (ho : o.op = .call { callee := .builtin .append, args := #[s, x], argTypes := #[t, tn] })
    (e : TypeId) (i : TypeInfo) (z : Value) (k kn : IntKind) (bytes : Nat) (ht : P.underlying t = some (.slice e)) (htn : P.underlying tn = some (.int kn)) (hi : P.info? e = some i) (hz : i.zero = some z)
    (hsize : i.size = 1) (hby : i.bytes = bytes) (hz1 : z.cells = #[z]) (hzo : z.oneCell' = true)
    (v : Value) (xs : List Value) (nx : Nat) (hnx : xs.length = nx) (hs : a.eval s = v) (hh : Held w0 w (l1 ++ rOwn e v xs :: l2)) (m : Nat) (hx : a.eval x = .int k m) (h63 : nx + m ≤ maxLen) (hbytes : (nx + m) * bytes ≤ 140737488355328)
    (h : ∀ A c w', Held w0 w' (l1 ++ rOwn e (.slice A (nx + m) c) (xs ++ List.replicate m z) :: l2) → K (a.put o.dst (.slice A (nx + m) c)) w') :
    if Region.wanted o (yielded ops a.tmps) = true then Oper.wp P o a w K Q else E := by
  have hw : Region.wanted o (yielded ops a.tmps) = true := by simp [Region.wanted, hgd]
  rw [if_pos hw]
  exact wp_zeros_held w l1 l2 s x t tn ho e i z k kn bytes ht htn hi hz hsize hby hz1 hzo v xs nx hnx hs hh m hx h63 hbytes h
end

theorem step_max {P : Program} {w : World} {ops : Array Oper} {o : Oper} {a : Act} {K : Act → World → Prop} {Q : Exit → Act → World → Prop} {E : Prop} (hgd : o.guard = none) (x y : Operand) (t : TypeId)
    (ho : o.op = .call { callee := .builtin .max, args := #[x, y], argTypes := #[t, t] }) (p q m : Int) (hx : a.eval x = .int .i64 p) (hy : a.eval y = .int .i64 q) (hm : (if p < q then q else p) = m)
    (h : K (a.put o.dst (.int .i64 m)) w) : if Region.wanted o (yielded ops a.tmps) = true then Oper.wp P o a w K Q else E := by
  have hw : Region.wanted o (yielded ops a.tmps) = true := by simp [Region.wanted, hgd]
  rw [if_pos hw]
  have hrun : (Builtin.max_ #[t, t] o.type #[.int .i64 p, .int .i64 q]).run P w = .ok (.int .i64 m) w := by
    rw [← hm]
    by_cases hpq : p < q
    · simp [Builtin.max_, Builtin.max2, hpq, List.foldlM]
    · simp [Builtin.max_, Builtin.max2, hpq, List.foldlM]
  unfold Oper.wp execOp
  simp only [ho, resolve, invoke, builtin, Sem.run_bind, Sem.run_pure, Result.andThen_ok, List.map_toArray, List.map_cons, List.map_nil, hx, hy, hrun]
  exact h

theorem step_min {P : Program} {w : World} {ops : Array Oper} {o : Oper} {a : Act} {K : Act → World → Prop} {Q : Exit → Act → World → Prop} {E : Prop} (hgd : o.guard = none) (x y : Operand) (t : TypeId)
    (ho : o.op = .call { callee := .builtin .min, args := #[x, y], argTypes := #[t, t] }) (p q m : Int) (hx : a.eval x = .int .i64 p) (hy : a.eval y = .int .i64 q) (hm : (if q < p then q else p) = m)
    (h : K (a.put o.dst (.int .i64 m)) w) : if Region.wanted o (yielded ops a.tmps) = true then Oper.wp P o a w K Q else E := by
  have hw : Region.wanted o (yielded ops a.tmps) = true := by simp [Region.wanted, hgd]
  rw [if_pos hw]
  have hrun : (Builtin.min_ #[t, t] o.type #[.int .i64 p, .int .i64 q]).run P w = .ok (.int .i64 m) w := by
    rw [← hm]
    by_cases hpq : q < p
    · simp [Builtin.min_, Builtin.min2, hpq, List.foldlM]
    · simp [Builtin.min_, Builtin.min2, hpq, List.foldlM]
  unfold Oper.wp execOp
  simp only [ho, resolve, invoke, builtin, Sem.run_bind, Sem.run_pure, Result.andThen_ok, List.map_toArray, List.map_cons, List.map_nil, hx, hy, hrun]
  exact h
end Go.Proofs.Ytcdeknbbeghljaa
