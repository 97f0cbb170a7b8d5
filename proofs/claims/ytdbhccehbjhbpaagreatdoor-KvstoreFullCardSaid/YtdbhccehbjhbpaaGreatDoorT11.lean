/- copies of rows: slices.Clone of records and of segments; bytes.Clone. -/
import Derived.Test.YtdbhccehbjhbpaaGreatDoorT10
namespace Go.Proofs.YtdbhccehbjhbpaaGreatDoor
open Go.RowKit
open Slog (Seg recsOf nameB)

theorem cell_alloc (w : World) (o : Obj) (p : Addr) (u : Value) (h : w.cell? p = some u) : (w.alloc o).cell? p = some u :=
  ((Mod.refl (fun _ => False) w).alloc o).cell h (fun h => h)

/-- append of rows of structs, from wherever they lie. -/
theorem wpList_append_rows {P : Program} {w : World} {ops : Array Oper} {rest : List Oper} {o : Oper} {a : Act} {Q : Exit → Act → World → Prop} (hgd : o.guard = none) (s x : Operand) (t : TypeId)
    (ho : o.op = .call { callee := .builtin .append, args := #[s, x], argTypes := #[t, t] })
    (k : Nat) (e : TypeId) (i : TypeInfo) (z : Value) (bytes : Nat) (ht : P.underlying t = some (.slice e)) (hi : P.info? e = some i) (hz : i.zero = some z)
    (hsize : i.size = k) (hby : i.bytes = bytes) (hzs : z.cells.size = k) (hk : 0 < k)
    (v : Value) (n : Nat) (xs : List Value) (F : List Nat) (hs : a.eval s = v) (hown : Own e k v n xs w F)
    (ad : Addr) (m c : Nat) (news : List Value) (hx : a.eval x = .slice (some ad) m c) (hl : news.length = m * k) (hcell : ∀ j u, news[j]? = some u → w.cell? (ad.add j) = some u) (h1 : ∀ u ∈ news, u.oneCell' = true)
    (hbytes : (n + m) * bytes ≤ 140737488355328) (h63 : n + m ≤ maxLen)
    (h : ∀ v' w' F', Own e k v' (n + m) (xs ++ news) w' F' → Upd w w' F F' → wpList P ops Q rest (a.put o.dst v') w') : wpList P ops Q (o :: rest) a w := by
  refine wpList_plain hgd fun _ hK => ?_
  obtain ⟨hrow, rfl⟩ := hown
  obtain ⟨v', w', hrun, h2, h3, _, h5⟩ := run_append_own_at (P := P) w 0 t o.type e i z k bytes ht hi hz hsize hby hzs hk v n xs hrow ad m c news hl hcell h1 h63 hbytes (Nat.zero_le _)
  have hu : Upd w w' v.ownBlock.toList v'.ownBlock.toList := by
    refine ⟨Mod.of_grownBy h3 (fun k hk _ => by simpa using hk), by cases v'.ownBlock <;> simp, fun b hb => ?_⟩
    rcases h5 with h5 | h5
    · rw [h5] at hb; exact .inl hb
    · rw [h5] at hb; simp at hb; exact .inr (by omega)
  unfold Oper.wp execOp
  simp only [ho, resolve, invoke, builtin, Sem.run_bind, Sem.run_pure, Result.andThen_ok, List.map_toArray, List.map_cons, List.map_nil, hs, hx, hrun]
  exact hK _ _ (h v' w' _ ⟨h2, rfl⟩ hu)

theorem Tryz.infoSeg : (Tryz.prog.info? 134).map (fun i => (i.zero, i.size, i.bytes)) = some (some (.agg #[.int .i64 0, .int .i64 0]), 2, 16) := by kernel_rfl
theorem Own.made2 (e : TypeId) (k : Nat) (w : World) : Own e k (.slice (some ⟨w.heap.size, 0, none⟩) 0 0) 0 [] (w.alloc (.cells #[] e)) [w.heap.size] :=
  ⟨World.ownsRow_made w #[] 0 (Nat.zero_le _) (Nat.zero_le _) (by simp), rfl⟩

set_option maxHeartbeats 1000000 in
theorem clone_segs (w : World) (ad : Addr) (m c : Nat) (news : List Value) (hl : news.length = m * 2) (hcell : ∀ j u, news[j]? = some u → w.cell? (ad.add j) = some u) (h1 : ∀ u ∈ news, u.oneCell' = true) (hm : m ≤ 1000000) :
    Calls Tryz.prog 112 #[.slice (some ad) m c] w fun e w' => ∃ v' F, e = .returned v' ∧ Own 134 2 v' m news w' F ∧ Upd w w' [] F := by
  obtain ⟨i0, hi, hz0, hz1, hz2⟩ := info_parts Tryz.infoSeg
  have eN := fun (w : World) (a : Option Addr) (n c : Nat) => Lib.run_eql_slice_nil (P := Tryz.prog) w 128 134 a n c 0 0 Tryz.underlying128
  have HI := hid (And.intro hi (And.intro hz0 (And.intro hz1 hz2)))
  have HC := hid (fun j u hu => (cell_alloc w (.cells #[] 134) _ _ (hcell j u hu)))
  have H1 := hid (And.intro hl (And.intro h1 hm))
  clear hi hz0 hz1 hz2 hcell h1 hl hm
  have HO := hid (Own.made2 134 2 w)
  go_enter Tryz.func112, Tryz.ntmps112
  go_wp2_with (at_builtin; refine wpList_append_rows rfl _ _ 128 rfl 2 134 i0 (.agg #[.int .i64 0, .int .i64 0]) 16 Tryz.underlying128 HI.out.1 HI.out.2.1 HI.out.2.2.1 HI.out.2.2.2 rfl (by decide) _ 0 [] _ rfl HO.out ad m c news rfl H1.out.1 HC.out H1.out.2.1 ?c1 ?c2 ?c3)
  case c1 => have := H1.out.2.2; omega
  case c2 => have := H1.out.2.2; unfold maxLen; omega
  case c3 =>
    intro v' w1 F' hown hu
    have HP := hid (And.intro hown hu)
    clear hown hu
    go_wp2
    go_ret
    obtain ⟨hown, hu⟩ := HP.out
    exact ⟨_, F', rfl, by simpa using hown, Upd.new ((Mod.refl _ w).alloc _) hu (by simp)⟩

set_option maxHeartbeats 1000000 in
theorem clone_recs (S : Nat → Prop) (w : World) (v : Value) (xs : List Value) (h : Rd S w v xs) (h1 : ∀ u ∈ xs, u.oneCell' = true) (hl : xs.length ≤ 1000000) :
    Calls Tryz.prog 111 #[v] w fun e w' => ∃ v' F, e = .returned v' ∧ Own 87 1 v' xs.length xs w' F ∧ Upd w w' [] F := by
  obtain ⟨A, c, hv, hc, hmx, hA⟩ := id h
  subst hv
  have eN := fun (w : World) (a : Option Addr) (n c : Nat) => Lib.run_eql_slice_nil (P := Tryz.prog) w 104 87 a n c 0 0 Tryz.underlying104
  cases A with
  | none =>
    have : xs = [] := by
      cases xs with
      | nil => rfl
      | cons _ _ => obtain ⟨_, _, h, _⟩ := hA (by simp); cases h
    subst this
    clear h hA
    go_enter Tryz.func111, Tryz.ntmps111
    go_wp2
    go_ret
    exact ⟨_, [], rfl, Own.nil _ _ _, Upd.refl _ (by simp)⟩
  | some ad =>
    obtain ⟨i0, hi, hz0, hz1, hz2⟩ := info_parts Tryz.infoBytes
    have HH := hid h
    have HI := hid (And.intro hi (And.intro hz0 (And.intro hz1 hz2)))
    have HL := hid (And.intro hl h1)
    clear h hA hi hz0 hz1 hz2 hl hmx h1
    go_enter Tryz.func111, Tryz.ntmps111
    have HO := hid (Own.made 87 w)
    go_wp2_with (at_builtin; refine wpList_append_rd _ rfl _ _ 104 rfl 87 i0 (.slice none 0 0) 24 Tryz.underlying104 HI.out.1 HI.out.2.1 HI.out.2.2.1 HI.out.2.2.2 rfl _ 0 [] _ rfl HO.out S (.slice (some ad) xs.length c) xs rfl (HH.out.alloc _) HL.out.2 ?c1 ?c2 ?c3)
    case c1 => have := HL.out.1; omega
    case c2 => have := HL.out.1; unfold maxLen; omega
    case c3 =>
      intro v' w1 F' hown hu
      have HP := hid (And.intro hown hu)
      clear hown hu
      go_wp2
      go_ret
      obtain ⟨hown, hu⟩ := HP.out
      refine ⟨_, F', rfl, by simpa using hown, Upd.new ((Mod.refl _ w).alloc _) hu (by simp)⟩

set_option maxHeartbeats 1000000 in
theorem bclone_bytes (S : Nat → Prop) (w : World) (v : Value) (l : List UInt8) (h : Rd S w v (bytesV l)) (hl : l.length ≤ 70368744177664) :
    Calls Tryz.prog 74 #[v] w fun e w' => ∃ v' F, e = .returned v' ∧ Own 5 1 v' l.length (bytesV l) w' F ∧ Upd w w' [] F := by
  obtain ⟨A, c, hv, hc, hmx, hA⟩ := id h
  rw [bytesV_length] at hc hv
  subst hv
  have eN := fun (w : World) (a : Option Addr) (n c : Nat) => Lib.run_eql_slice_nil (P := Tryz.prog) w 87 5 a n c 0 0 Tryz.underlying87
  cases A with
  | none =>
    have : l = [] := by
      cases l with
      | nil => rfl
      | cons _ _ => obtain ⟨_, _, h, _⟩ := hA (by simp [bytesV]); cases h
    subst this
    clear h hA
    go_enter Tryz.func74, Tryz.ntmps74
    go_wp2
    go_ret
    exact ⟨_, [], rfl, Own.nil _ _ _, Upd.refl _ (by simp)⟩
  | some ad =>
    obtain ⟨i0, hi, hz0, hz1, hz2⟩ := info_parts Tryz.info5
    have HH := hid h
    have HI := hid (And.intro hi (And.intro hz0 (And.intro hz1 hz2)))
    have HL := hid hl
    clear h hA hi hz0 hz1 hz2 hl hmx
    go_enter Tryz.func74, Tryz.ntmps74
    have HO := hid (Own.made 5 w)
    go_wp2_with (at_builtin; refine wpList_append_rd _ rfl _ _ 87 rfl 5 i0 (.int .u8 0) 1 Tryz.underlying87 HI.out.1 HI.out.2.1 HI.out.2.2.1 HI.out.2.2.2 rfl _ 0 [] _ rfl HO.out S (.slice (some ad) l.length c) (bytesV l) rfl (HH.out.alloc _) (bytesV_one l) ?c1 ?c2 ?c3)
    case c1 => have := HL.out; rw [bytesV_length]; omega
    case c2 => have := HL.out; rw [bytesV_length]; unfold maxLen; omega
    case c3 =>
      intro v' w1 F' hown hu
      have HP := hid (And.intro hown hu)
      clear hown hu
      go_wp2
      go_ret
      obtain ⟨hown, hu⟩ := HP.out
      refine ⟨_, F', rfl, by simpa [bytesV_length] using hown, Upd.new ((Mod.refl _ w).alloc _) hu (by simp)⟩
theorem bclone_held {w0 w : World} {Rs : List Res} (h : Held w0 w Rs) (S : Nat → Prop) (v : Value) (l : List UInt8) (hr : Rd S w v (bytesV l)) (hl : l.length ≤ 70368744177664) :
    Calls Tryz.prog 74 #[v] w fun e w' => ∃ v', e = .returned v' ∧ Held w0 w' (rBytes v' l :: Rs) :=
  (bclone_bytes S w v l hr hl).mono fun _ _ ⟨v', _, he, h1, h2⟩ => ⟨v', he, h.more (own_bytes h1) h2⟩
end Go.Proofs.YtdbhccehbjhbpaaGreatDoor
