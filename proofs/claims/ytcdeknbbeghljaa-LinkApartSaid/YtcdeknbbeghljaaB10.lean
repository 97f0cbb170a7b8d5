/- append of one struct onto a held row of structs. Nothing of the program. -/
import Derived.Test.YtcdeknbbeghljaaB9
namespace Go.Proofs.Ytcdeknbbeghljaa
open Go.RowKit

section
variable {P : Program} {w0 w : World} {l1 l2 : List Res}

theorem flatten_length {α : Type} {k : Nat} : ∀ {rows : List (List α)}, (∀ r ∈ rows, r.length = k) → rows.flatten.length = rows.length * k
  | [], _ => by simp
  | r :: rows, h => by
    rw [List.flatten_cons, List.length_append, h r (by simp), flatten_length (fun q hq => h q (by simp [hq])), List.length_cons, Nat.succ_mul]
    omega

theorem Held.rows_form {k : Nat} {e : TypeId} {v : Value} {rows : List (List Value)} (h : Held w0 w (l1 ++ rRows k e v rows :: l2)) : ∃ A c, v = .slice A rows.length c ∧ rows.length ≤ c ∧ c ≤ 9223372036854775807 := by
  obtain ⟨F, -, hF⟩ := h.get
  obtain ⟨⟨-, hr⟩, -⟩ := hF
  rcases hr with ⟨e, hz⟩ | ⟨g, cap, cur, e, -, -, r1, r2, -, -⟩
  · exact ⟨none, 0, by rw [e, hz], by omega, by omega⟩
  · exact ⟨_, cap, e, r1, by unfold maxLen at r2; exact r2⟩

theorem wp_append_row {o : Oper} {a : Act} {K : Act → World → Prop} {Q : Exit → Act → World → Prop} (l1 l2 : List Res) (s x : Operand) (t : TypeId)
    (ho : o.op = .call { callee := .builtin .append, args := #[s, x], argTypes := #[t, t] })
    (k : Nat) (e : TypeId) (i : TypeInfo) (z : Value) (bytes : Nat) (ht : P.underlying t = some (.slice e)) (hi : P.info? e = some i) (hz : i.zero = some z)
    (hsize : i.size = k) (hby : i.bytes = bytes) (hzs : z.cells.size = k) (hk : 0 < k)
    (v : Value) (rows : List (List Value)) (nr : Nat) (hnr : rows.length = nr) (hs : a.eval s = v) (hh : Held w0 w (l1 ++ rRows k e v rows :: l2))
    (ad : Addr) (c : Nat) (row : List Value) (hx : a.eval x = .slice (some ad) 1 c) (hrow : row.length = k) (hcell : ∀ j u, row[j]? = some u → w.cell? (ad.add j) = some u) (h1 : ∀ u ∈ row, u.oneCell' = true)
    (hbytes : (nr + 1) * bytes ≤ 140737488355328) (h63 : nr + 1 ≤ maxLen)
    (h : ∀ A c w', nr + 1 ≤ c → c ≤ maxLen → Held w0 w' (l1 ++ rRows k e (.slice A (nr + 1) c) (rows ++ [row]) :: l2) → K (a.put o.dst (.slice A (nr + 1) c)) w') : o.wp P a w K Q := by
  subst hnr
  obtain ⟨F, ⟨hr, hown⟩, nF, _, hb⟩ := hh.use
  obtain ⟨hrw, rfl⟩ := hown
  obtain ⟨v', w', hrun, h2, h3, _, h5⟩ := run_append_own_at (P := P) w 0 t o.type e i z k bytes ht hi hz hsize hby hzs hk v rows.length rows.flatten hrw ad 1 c row (by rw [hrow, Nat.one_mul]) hcell h1 h63 hbytes (Nat.zero_le _)
  have hform : ∃ A c, v' = .slice A (rows.length + 1) c ∧ rows.length + 1 ≤ c ∧ c ≤ maxLen := by
    rcases h2.2 with ⟨_, hz⟩ | ⟨g, cap, cur, e, -, -, r1, r2, -, -⟩
    · omega
    · exact ⟨_, cap, e, r1, r2⟩
  obtain ⟨A, c', rfl, q1, q2⟩ := hform
  unfold Oper.wp execOp
  simp only [ho, resolve, invoke, builtin, Sem.run_bind, Sem.run_pure, Result.andThen_ok, List.map_toArray, List.map_cons, List.map_nil, hs, hx, hrun]
  refine h A c' w' q1 q2 (hb w' (rRows k e _ (rows ++ [row])) (Value.ownBlock (.slice A (rows.length + 1) c')).toList ⟨fun r hr' => ?_, ?_, rfl⟩ ⟨Mod.of_grownBy h3 (fun k hk _ => by simpa using hk), by cases (Value.ownBlock (.slice A (rows.length + 1) c')) <;> simp, fun b hb => ?_⟩)
  · rcases List.mem_append.1 hr' with h | h
    · exact hr r h
    · rw [List.mem_singleton.1 h]; exact hrow
  · rw [List.length_append, List.length_singleton, List.flatten_append, List.flatten_singleton]
    exact h2
  · rcases h5 with h5 | h5
    · rw [h5] at hb; exact .inl hb
    · rw [h5] at hb; simp at hb; exact .inr (by omega)

theorem step_append_row {ops : Array Oper} {E : Prop} {o : Oper} {a : Act} {K : Act → World → Prop} {Q : Exit → Act → World → Prop} (l1 l2 : List Res) (hgd : o.guard = none) (s x : Operand) (t : TypeId)
    (ho : o.op = .call { callee := .builtin .append, args := #[s, x], argTypes := #[t, t] })
    (k : Nat) (e : TypeId) (i : TypeInfo) (z : Value) (bytes : Nat) (ht : P.underlying t = some (.slice e)) (hi : P.info? e = some i) (hz : i.zero = some z)
    (hsize : i.size = k) (hby : i.bytes = bytes) (hzs : z.cells.size = k) (hk : 0 < k)
    (v : Value) (rows : List (List Value)) (nr : Nat) (hnr : rows.length = nr) (hs : a.eval s = v) (hh : Held w0 w (l1 ++ rRows k e v rows :: l2))
    (ad : Addr) (c : Nat) (row : List Value) (hx : a.eval x = .slice (some ad) 1 c) (hrow : row.length = k) (hcell : ∀ j u, row[j]? = some u → w.cell? (ad.add j) = some u) (h1 : ∀ u ∈ row, u.oneCell' = true)
    (hbytes : (nr + 1) * bytes ≤ 140737488355328) (h63 : nr + 1 ≤ maxLen)
    (h : ∀ A c w', nr + 1 ≤ c → c ≤ maxLen → Held w0 w' (l1 ++ rRows k e (.slice A (nr + 1) c) (rows ++ [row]) :: l2) → K (a.put o.dst (.slice A (nr + 1) c)) w') :
    if Region.wanted o (yielded ops a.tmps) = true then Oper.wp P o a w K Q else E := by
  have hw : Region.wanted o (yielded ops a.tmps) = true := by simp [Region.wanted, hgd]
  rw [if_pos hw]
  exact wp_append_row l1 l2 s x t ho k e i z bytes ht hi hz hsize hby hzs hk v rows nr hnr hs hh ad c row hx hrow hcell h1 hbytes h63 h

theorem wpList_append_row {ops : Array Oper} {rest : List Oper} {o : Oper} {a : Act} {Q : Exit → Act → World → Prop} (l1 l2 : List Res) (hgd : o.guard = none) (s x : Operand) (t : TypeId)
    (ho : o.op = .call { callee := .builtin .append, args := #[s, x], argTypes := #[t, t] })
    (k : Nat) (e : TypeId) (i : TypeInfo) (z : Value) (bytes : Nat) (ht : P.underlying t = some (.slice e)) (hi : P.info? e = some i) (hz : i.zero = some z)
    (hsize : i.size = k) (hby : i.bytes = bytes) (hzs : z.cells.size = k) (hk : 0 < k)
    (v : Value) (rows : List (List Value)) (nr : Nat) (hnr : rows.length = nr) (hs : a.eval s = v) (hh : Held w0 w (l1 ++ rRows k e v rows :: l2))
    (ad : Addr) (c : Nat) (row : List Value) (hx : a.eval x = .slice (some ad) 1 c) (hrow : row.length = k) (hcell : ∀ j u, row[j]? = some u → w.cell? (ad.add j) = some u) (h1 : ∀ u ∈ row, u.oneCell' = true)
    (hbytes : (nr + 1) * bytes ≤ 140737488355328) (h63 : nr + 1 ≤ maxLen)
    (h : ∀ A c w', nr + 1 ≤ c → c ≤ maxLen → Held w0 w' (l1 ++ rRows k e (.slice A (nr + 1) c) (rows ++ [row]) :: l2) → wpList P ops Q rest (a.put o.dst (.slice A (nr + 1) c)) w') : wpList P ops Q (o :: rest) a w :=
  wpList_plain hgd fun _ hK => wp_append_row l1 l2 s x t ho k e i z bytes ht hi hz hsize hby hzs hk v rows nr hnr hs hh ad c row hx hrow hcell h1 hbytes h63 fun A c w' h2 h3 h4 => hK _ _ (h A c w' h2 h3 h4)

theorem step_mapUpdate_ex {ops : Array Oper} {E : Prop} {o : Oper} {a : Act} {K : Act → World → Prop} {Q : Exit → Act → World → Prop} (hgd : o.guard = none) (m x v : Operand) (t : TypeId) (hop : o.op = Op.mapUpdate t m x v)
    (mv key val : Value) (hm : a.eval m = mv) (hx : a.eval x = key) (hv : a.eval v = val) (Post : World → Prop) (H : ∃ w', (Instr.mapUpdate t mv key val).run P w = .ok () w' ∧ Post w')
    (hK : ∀ w', Post w' → K (a.put o.dst undef) w') : if Region.wanted o (yielded ops a.tmps) = true then Oper.wp P o a w K Q else E := by
  have hw : Region.wanted o (yielded ops a.tmps) = true := by simp [Region.wanted, hgd]
  rw [if_pos hw]
  obtain ⟨w', hrun, hp⟩ := H
  unfold Oper.wp
  simp [execOp, hop, hm, hx, hv, hrun, Result.andThen]
  exact hK w' hp
end
end Go.Proofs.Ytcdeknbbeghljaa
