/- append of a text behind bytes. -/
import Derived.Test.YtdbhccehbjhbpaaGreatDoorT23
import Derived.Lib.AppendStr
namespace Go.Proofs.YtdbhccehbjhbpaaGreatDoor
open Go.RowKit
open Slog (numB)
open Go.Lib (strCells strCells_length)

theorem strCells_sv (l : List UInt8) : strCells ⟨l.toArray⟩ = bytesV l := by unfold strCells bytesV; simp
section
variable {P : Program} (w : World)
/-- append of a text's bytes onto a row that is owned. -/
theorem run_append_text (t u ty e : TypeId) (i : TypeInfo) (ht : P.underlying t = some (.slice e)) (hu : P.underlying u = some .string) (hi : P.info? e = some i) (hz : i.zero = some (.int .u8 0))
    (hsize : i.size = 1) (hby : i.bytes = 1)
    (v : Value) (n : Nat) (xs : List Value) (F : List Nat) (hown : Own e 1 v n xs w F) (l : List UInt8)
    (h63 : n + l.length ≤ maxLen) (hbytes : n + l.length ≤ 140737488355328) :
    ∃ v' w' F', (Builtin.append_ #[t, u] ty #[v, sv l]).run P w = .ok v' w' ∧ Own e 1 v' (n + l.length) (xs ++ bytesV l) w' F' ∧ Upd w w' F F' := by
  obtain ⟨hrow, rfl⟩ := hown
  have hsz : (ByteArray.mk l.toArray).size = l.length := by simp [ByteArray.size]
  obtain ⟨v', w', hrun, h2, h3, h4⟩ := Go.Lib.run_append_own_string (P := P) w 0 t u ty e i ht hu hi hz hsize hby v n xs hrow ⟨l.toArray⟩ (by rw [hsz]; exact h63) (by rw [hsz]; exact hbytes) (Nat.zero_le _)
  have h5 : v'.ownBlock = v.ownBlock ∨ v'.ownBlock = some w.heap.size := by
    have hs63 : n + l.length ≤ 9223372036854775807 := by unfold maxLen at h63; omega
    have hxl : xs.length = n := by simpa using hrow.1
    rcases hrow.2 with ⟨rfl, rfl⟩ | ⟨g, cap, cur, rfl, hbg, hg, hnc, hcm, hcs, htake⟩
    · by_cases hm : l.length = 0
      · left
        rw [h4.2 ⟨rfl, by rw [hsz]; exact hm⟩]
      · right
        have hr := run_append_nil_string (P := P) w t u ty e i (.int .u8 0) ht hu hi hz ⟨l.toArray⟩ (by rw [hsz]; omega) (by rw [hsz]; omega) (by rw [hby, hsz]; omega)
        rw [hrun] at hr
        injection hr with e1 e2
        rw [e1]
        rfl
    · by_cases hroom : n + l.length ≤ cap
      · left
        have hcs' : cur.size = cap := by simpa using hcs
        have hr := Go.Lib.run_append_room_string (P := P) (ty := ty) w t u e i ht hu hi hsize g n cap cur hg ⟨l.toArray⟩ (by rw [hsz]; exact hroom) (by rw [hsz]; omega)
        rw [hrun] at hr
        injection hr with e1 e2
        rw [e1]
        rfl
      · right
        have holds : ∀ j u, xs[j]? = some u → w.cell? ((⟨g, 0, none⟩ : Addr).add j) = some u := hrow.cells (g := g) rfl
        have hr := Go.Lib.run_append_grow_string (P := P) (ty := ty) w t u e i (.int .u8 0) ht hu hi hz ⟨g, 0, none⟩ n cap xs (by rw [hsize]; simpa using hxl) holds ⟨l.toArray⟩ (by rw [hsz]; omega) (by rw [hsz]; omega) (by rw [hby, hsz]; exact growslice_fits (by omega) (by omega))
        rw [hrun] at hr
        injection hr with e1 e2
        rw [e1]
        rfl
  rw [strCells_sv, hsz] at h2
  refine ⟨v', w', _, hrun, ⟨h2, rfl⟩, Mod.of_grownBy h3 (fun k hk _ => by simpa using hk), by cases v'.ownBlock <;> simp, fun b hb => ?_⟩
  rcases h5 with h5 | h5
  · rw [h5] at hb; exact .inl hb
  · rw [h5] at hb; simp at hb; exact .inr (by omega)
end
theorem wpList_append_text {P : Program} {w0 w : World} {ops : Array Oper} {rest : List Oper} {o : Oper} {a : Act} {Q : Exit → Act → World → Prop} (l1 l2 : List Res) (hgd : o.guard = none) (s x : Operand) (t u : TypeId)
    (ho : o.op = .call { callee := .builtin .append, args := #[s, x], argTypes := #[t, u] })
    (e : TypeId) (i : TypeInfo) (ht : P.underlying t = some (.slice e)) (hu : P.underlying u = some .string) (hi : P.info? e = some i) (hz : i.zero = some (.int .u8 0))
    (hsize : i.size = 1) (hby : i.bytes = 1)
    (v : Value) (xs : List Value) (hs : a.eval s = v) (hh : Held w0 w (l1 ++ rOwn e v xs :: l2))
    (l : List UInt8) (hx : a.eval x = sv l)
    (h63 : xs.length + l.length ≤ maxLen) (hbytes : xs.length + l.length ≤ 140737488355328)
    (h : ∀ A c w', Held w0 w' (l1 ++ rOwn e (.slice A (xs.length + l.length) c) (xs ++ bytesV l) :: l2) → wpList P ops Q rest (a.put o.dst (.slice A (xs.length + l.length) c)) w') : wpList P ops Q (o :: rest) a w := by
  refine wpList_plain hgd fun K hK => ?_
  obtain ⟨F, hR, _, _, hback⟩ := hh.use
  obtain ⟨v', w', F', hrun, h2, h3⟩ := run_append_text (P := P) w t u o.type e i ht hu hi hz hsize hby v xs.length xs F hR l h63 hbytes
  obtain ⟨A, c, rfl, hc, hm, _⟩ := h2.rd
  have hl : (xs ++ bytesV l).length = xs.length + l.length := by rw [List.length_append, bytesV_length]
  unfold Oper.wp execOp
  simp only [ho, resolve, invoke, builtin, Sem.run_bind, Sem.run_pure, Result.andThen_ok, List.map_toArray, List.map_cons, List.map_nil, hs, hx, hrun]
  rw [hl]
  refine hK _ _ (h A c w' ?_)
  have := hback w' (rOwn e (.slice A (xs.length + l.length) c) (xs ++ bytesV l)) F' (by
    show Own e 1 _ (xs ++ bytesV l).length (xs ++ bytesV l) w' F'
    rw [hl] at h2 ⊢; exact h2) h3
  exact this

end Go.Proofs.YtdbhccehbjhbpaaGreatDoor
