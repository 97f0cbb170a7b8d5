/- slices.Equal, slices.Grow, slices.Concat at items. -/
import Derived.Test.YtdbhccehbjhbpaaGreatDoorK15
import Derived.Laws.StructEq
import Derived.Lib.AppendZeros

namespace Go.Proofs.YtdbhccehbjhbpaaGreatDoor
open Go.RowKit
open Kv (It)

theorem flat_cell {α : Type} {k : Nat} : ∀ {rows : List (List α)} {j : Nat} {u : α}, (∀ r ∈ rows, r.length = k) → rows.flatten[j]? = some u → ∃ i m r, rows[i]? = some r ∧ r[m]? = some u ∧ j = i * k + m
  | [], j, u, _, h => by simp at h
  | r :: rs, j, u, hl, h => by
    have hr := hl r (by simp)
    rw [List.flatten_cons, List.getElem?_append] at h
    split at h
    · exact ⟨0, j, r, rfl, h, by omega⟩
    · rename_i hj
      obtain ⟨i, m, r', h1, h2, h3⟩ := flat_cell (fun x hx => hl x (List.mem_cons_of_mem _ hx)) h
      refine ⟨i + 1, m, r', by simpa using h1, h2, ?_⟩
      rw [hr] at h3 hj
      rw [Nat.add_mul]
      omega
/-- rows of an owned thing, read. -/
theorem Held.rows_rd {w0 w : World} {B : List Res} {k : Nat} {e : TypeId} {v : Value} {rows : List (List Value)} (h : Held w0 w (rRows k e v rows :: B)) : RdRows k (fun _ => True) w v rows := by
  obtain ⟨F, hR, -⟩ := Held.use (l1 := []) h
  obtain ⟨A, c, hv, h1, h2⟩ := Held.rows_form (l1 := []) h
  refine ⟨hR.1, A, c, hv, h1, h2, fun hne => ?_⟩
  obtain ⟨r0, hr0⟩ : ∃ r0, rows[0]? = some r0 := by cases rows with | nil => exact absurd rfl hne | cons a b => exact ⟨a, rfl⟩
  obtain ⟨g, c', hv', -, -, -⟩ := Held.row_at h hr0
  rw [hv] at hv'
  injection hv' with e1
  refine ⟨g, 0, e1, trivial, fun i j r u hr hu => ?_⟩
  obtain ⟨g2, c2, hv2, -, -, hc⟩ := Held.row_at h hr
  rw [hv] at hv2
  injection hv2 with e2
  rw [e1] at e2
  injection e2 with e2
  injection e2 with e2
  subst e2
  rw [Nat.zero_add]
  exact hc j u hu
/-- append of rows onto rows that are owned. -/
theorem wpList_rows_held {P : Program} {w0 w : World} {ops : Array Oper} {rest : List Oper} {o : Oper} {a : Act} {Q : Exit → Act → World → Prop} (l1 l2 : List Res) (hgd : o.guard = none) (s x : Operand) (t : TypeId)
    (ho : o.op = .call { callee := .builtin .append, args := #[s, x], argTypes := #[t, t] })
    (k : Nat) (e : TypeId) (i : TypeInfo) (z : Value) (bytes : Nat) (ht : P.underlying t = some (.slice e)) (hi : P.info? e = some i) (hz : i.zero = some z)
    (hsize : i.size = k) (hby : i.bytes = bytes) (hzs : z.cells.size = k) (hk : 0 < k)
    (v : Value) (rows : List (List Value)) (hs : a.eval s = v) (hh : Held w0 w (l1 ++ rRows k e v rows :: l2))
    (u : Value) (S : Nat → Prop) (news : List (List Value)) (hx : a.eval x = u) (hrd : RdRows k S w u news) (h1 : ∀ r ∈ news, ∀ y ∈ r, y.oneCell' = true)
    (hbytes : (rows.length + news.length) * bytes ≤ 140737488355328) (h63 : rows.length + news.length ≤ maxLen)
    (h : ∀ v' w', Held w0 w' (l1 ++ rRows k e v' (rows ++ news) :: l2) → wpList P ops Q rest (a.put o.dst v') w') : wpList P ops Q (o :: rest) a w := by
  obtain ⟨hlen, A, c, rfl, hc, hm, hA⟩ := hrd
  obtain ⟨F, hR, -, -, hback⟩ := hh.use
  cases A with
  | none =>
    have hnil : news = [] := Classical.byContradiction fun hne => by
      obtain ⟨b, off, e1, -⟩ := hA hne
      cases e1
    subst hnil
    refine wpList_plain hgd fun _ hK => ?_
    unfold Oper.wp execOp
    have hrun := run_append_nilsrc (P := P) w 0 t o.type e i k ht hi v rows.length rows.flatten hR.2.1 none c rfl
    have hx' : a.eval x = .slice none 0 c := hx
    simp only [ho, resolve, invoke, builtin, Sem.run_bind, Sem.run_pure, Result.andThen_ok, List.map_toArray, List.map_cons, List.map_nil, hs, hx', hrun]
    exact hK _ _ (h v w (by rw [List.append_nil]; exact hh))
  | some ad =>
    refine wpList_append_rows hgd s x t ho k e i z bytes ht hi hz hsize hby hzs hk v rows.length rows.flatten F hs hR.2 ad news.length c news.flatten hx (flatten_length hlen) (fun j y hy => ?_) (fun y hy => ?_) hbytes h63 fun v' w' F' hown hu => ?_
    · obtain ⟨i', m', r, e1, e2, rfl⟩ := flat_cell hlen hy
      obtain ⟨b, off, e3, -, hcell⟩ := hA (by intro e; rw [e] at e1; simp at e1)
      injection e3 with e3
      subst e3
      have := hcell i' m' r y e1 e2
      rw [Nat.add_assoc] at this
      unfold Addr.add
      split
      · rename_i h0
        rw [h0] at this
        simpa using this
      · simpa using this
    · obtain ⟨r, hr, hyr⟩ := List.mem_flatten.1 hy
      exact h1 r hr y hyr
    · refine h v' w' (hback w' (rRows k e v' (rows ++ news)) F' ⟨fun r hr => ?_, ?_⟩ hu)
      · rcases List.mem_append.1 hr with hr | hr
        · exact hR.1 r hr
        · exact hlen r hr
      · rw [List.length_append, List.flatten_append]
        exact hown

theorem itRow_one (l : List (List UInt8 × It)) : ∀ r ∈ l.map itRow, ∀ y ∈ r, y.oneCell' = true := by
  intro r hr y hy
  obtain ⟨p, -, rfl⟩ := List.mem_map.1 hr
  unfold itRow sv at hy
  simp only [List.mem_cons, List.not_mem_nil, or_false] at hy
  rcases hy with rfl | rfl | rfl | rfl <;> rfl
def RdI (w : World) (v : Value) (l : List (List UInt8 × It)) : Prop := RdRows 4 (fun _ => True) w v (l.map itRow)
theorem Held.its_rd {w0 w : World} {B : List Res} {v : Value} {l : List (List UInt8 × It)} (h : Held w0 w (rIts v l :: B)) : RdI w v l := Held.rows_rd h
theorem RdI.form {w : World} {v : Value} {l : List (List UInt8 × It)} (h : RdI w v l) : ∃ A c, v = .slice A l.length c ∧ l.length ≤ c ∧ c ≤ 9223372036854775807 := by
  obtain ⟨-, A, c, hv, h1, h2, -⟩ := h
  rw [List.length_map] at hv h1
  exact ⟨A, c, hv, h1, h2⟩
structure ItAt (w : World) (b off : Nat) (p : List UInt8 × It) : Prop where
  c0 : w.cell? ⟨b, off, none⟩ = some (.string ⟨p.1.toArray⟩)
  c1 : w.cell? ⟨b, off + 1, none⟩ = some (.bool p.2.gone)
  c2 : w.cell? ⟨b, off + 2, none⟩ = some (.string ⟨p.2.value.toArray⟩)
  c3 : w.cell? ⟨b, off + 3, none⟩ = some (.int .i64 p.2.at_)
theorem RdI.at {w : World} {A : Option Addr} {n c : Nat} {l : List (List UInt8 × It)} (h : RdI w (.slice A n c) l) {k : Nat} (hk : k < l.length) : ∃ b off, A = some ⟨b, off, none⟩ ∧ ItAt w b (off + k * 4) l[k] := by
  obtain ⟨-, A', c', hv, -, -, hA⟩ := h
  injection hv with e1
  subst e1
  have hr : (l.map itRow)[k]? = some (itRow l[k]) := by rw [List.getElem?_map, List.getElem?_eq_getElem hk]; rfl
  obtain ⟨b, off, e, -, hc⟩ := hA (by intro e; rw [e] at hr; simp at hr)
  exact ⟨b, off, e, ⟨show w.cell? ⟨b, off + k * 4, none⟩ = some (sv l[k].1) by simpa using hc k 0 _ _ hr rfl, hc k 1 _ _ hr rfl, hc k 2 _ _ hr rfl, hc k 3 _ _ hr rfl⟩⟩

set_option maxRecDepth 100000 in
set_option maxHeartbeats 1000000 in
theorem iequal_any (w : World) (v u : Value) (l : List (List UInt8 × It)) (hv : RdI w v l) (hu : RdI w u l) :
    Calls Tryz.prog 21 #[v, u] w fun e w' => e = .returned (.bool true) ∧ Mod (fun _ => False) w w' := by
  obtain ⟨A, c, rfl, a1, a2⟩ := hv.form
  obtain ⟨C, e, rfl, b1, b2⟩ := hu.form
  have HA := hid (And.intro hv hu)
  clear hv hu
  go_enter Tryz.func21, Tryz.ntmps21
  go_wp2_with fail
  go_loopw [13] (fun iv wr => ∃ k : Nat, k ≤ l.length ∧ iv = .int .i64 k ∧ ∃ n, wr = w.drewN n) (fun iv _ => l.length - (intOf iv).toNat)
  case atStart => exact ⟨0, Nat.zero_le _, rfl, 0, rfl⟩
  case round =>
    obtain ⟨k, hk, rfl, n, rfl⟩ := hrel
    by_cases hlt : k < l.length
    · obtain ⟨b, off, rfl, ⟨d0, d1, d2, d3⟩⟩ := HA.out.1.at hlt
      obtain ⟨b', off', rfl, ⟨e0, e1, e2, e3⟩⟩ := HA.out.2.at hlt
      have h0 : (0 : Int) ≤ (k : Int) := by omega
      have h1 : (k : Int) < (l.length : Int) := by omega
      generalize l[k] = x at *
      obtain ⟨key, gone, value, at_⟩ := x
      dsimp only at d0 d1 d2 d3 e0 e1 e2 e3
      go_wp2_with fail
      go_quiet (fail)
      go_wp2_with fail
      exact ⟨⟨k + 1, by omega, by simp, _, rfl⟩, by show l.length - ((k : Int) + 1).toNat < l.length - (k : Int).toNat; omega⟩
    · go_wp2_with fail
      go_ret
      exact ⟨rfl, (Mod.refl _ w).drewN n⟩
end Go.Proofs.YtdbhccehbjhbpaaGreatDoor
