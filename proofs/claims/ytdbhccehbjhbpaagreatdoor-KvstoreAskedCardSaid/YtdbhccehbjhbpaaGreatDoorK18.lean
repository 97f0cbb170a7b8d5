/- slices.Grow, slices.Concat at items. -/
import Derived.Test.YtdbhccehbjhbpaaGreatDoorK17
import Derived.WalkKit

namespace Go.Proofs.YtdbhccehbjhbpaaGreatDoor
open Go.RowKit
open Kv (It)

theorem own_cut4 (e : TypeId) (w : World) (cur : Array Value) (cap : Nat) (hc : cap ≤ maxLen) (hs : cur.size = cap * 4) :
    Own e 4 (.slice (some ⟨w.heap.size, 0, none⟩) 0 cap) 0 [] (w.alloc (.cells cur e)) [w.heap.size] :=
  ⟨World.ownsRow_made w cur cap (Nat.zero_le _) hc hs, rfl⟩

set_option maxRecDepth 100000 in
set_option maxHeartbeats 1000000 in
theorem igrow_held {w0 w : World} {B : List Res} (h : Held w0 w B) (n : Nat) (hn : n ≤ 1000000) :
    Calls Tryz.prog 57 #[.slice none 0 0, .int .i64 n] w fun e w' => ∃ v', e = .returned v' ∧ Held w0 w' (rIts v' [] :: B) := by
  by_cases h0 : n = 0
  · subst h0
    have H := hid h.its_nil
    clear h
    go_enter Tryz.func57, Tryz.ntmps57
    go_wp2
    go_ret
    exact ⟨_, rfl, H.out⟩
  · have hpos : 0 < n := by omega
    obtain ⟨i0, hi, hz0, hz1, hz2⟩ := info_parts Tryz.infoItem
    have hr := fun ty => Lib.run_append_nil_zeros (P := Tryz.prog) w 38 3 ty 41 i0 _ .i64 .i64 Tryz.underlying38 Tryz.underlying3 hi hz0 n hpos (by omega) (by omega) (by rw [hz2]; omega)
    have hge := grownCap_ge w n 0 41
    have hle := grownCap_le_maxLen w n 0 41 (by unfold maxLen; omega)
    have HO := hid (own_cut4 41 w.drew (Builtin.zeroCells (Value.agg #[.string ⟨#[]⟩, .bool false, .string ⟨#[]⟩, .int .i64 0]).cells n ++ Builtin.zeroCells (Value.agg #[.string ⟨#[]⟩, .bool false, .string ⟨#[]⟩, .int .i64 0]).cells (grownCap w n 0 41 - n)) (grownCap w n 0 41) hle (by simp only [Array.size_append, size_zeroCells]; simp [Value.cells]; omega))
    have HR := hid hr
    have HH := hid h
    unfold maxLen at hle
    generalize grownCap w n 0 41 = cap at *
    generalize Builtin.zeroCells (Value.agg #[.string ⟨#[]⟩, .bool false, .string ⟨#[]⟩, .int .i64 0]).cells n ++ Builtin.zeroCells (Value.agg #[.string ⟨#[]⟩, .bool false, .string ⟨#[]⟩, .int .i64 0]).cells (cap - n) = cells at *
    clear hr hi hz0 hz1 hz2 h0 h
    go_enter Tryz.func57, Tryz.ntmps57
    go_wp2_with (at_builtin; refine Lib.wpList_append_run _ rfl _ _ 38 3 rfl (.slice none 0 0) (.int .i64 n) rfl rfl _ _ (HR.out _) ?_)
    go_wp2
    go_ret
    exact ⟨_, rfl, HH.out.more (R := rIts _ []) (F := [w.heap.size]) ⟨by simp, HO.out⟩ ⟨((Mod.refl _ w).drew).alloc _, by simp, fun b hb => .inr (by simp at hb; omega)⟩⟩

set_option maxRecDepth 100000 in
set_option maxHeartbeats 2000000 in
/-- slices.Concat of two. -/
theorem iconcat_held {w0 w : World} {B : List Res} {g : Nat} {v1 v2 : Value} {t1 t2 : List (List UInt8 × It)} (h : Held w0 w (rBlk g 38 #[v1, v2] :: rIts v1 t1 :: rIts v2 t2 :: B)) (h1 : t1.length ≤ 100000) (h2 : t2.length ≤ 100000) :
    Calls Tryz.prog 25 #[.slice (some ⟨g, 0, none⟩) 2 2] w fun e w' => ∃ v, e = .returned v ∧ Held w0 w' (rIts v (t1 ++ t2) :: rBlk g 38 #[v1, v2] :: rIts v1 t1 :: rIts v2 t2 :: B) := by
  obtain ⟨A1, c1, rfl, a1, a2⟩ := h.pull1.its_form
  obtain ⟨A2, c2, rfl, b1, b2⟩ := h.pull2.its_form
  have x0 : w.cell? ⟨g, 0, none⟩ = some (.slice A1 t1.length c1) := h.blk0.cell (i := 0) rfl
  have x1 : w.cell? ⟨g, 1, none⟩ = some (.slice A2 t2.length c2) := h.blk0.cell (i := 1) rfl
  have HG := hid (igrow_held h (t1.length + t2.length) (by omega))
  rw [show ((t1.length + t2.length : Nat) : Int) = (t1.length : Int) + (t2.length : Int) by omega] at HG
  obtain ⟨iI, ii, iz, is, ib⟩ := info_parts Tryz.infoItem
  have HI := hid (And.intro ii (And.intro iz (And.intro is ib)))
  obtain ⟨n1, hn1⟩ : ∃ n1, n1 = t1.length := ⟨_, rfl⟩
  obtain ⟨n2, hn2⟩ : ∃ n2, n2 = t2.length := ⟨_, rfl⟩
  have HN := hid (And.intro hn1 hn2)
  have H1 := hid (show (t1.map itRow).length = n1 by rw [List.length_map, hn1])
  have H2 := hid (show (t2.map itRow).length = n2 by rw [List.length_map, hn2])
  rw [← hn1, ← hn2] at HG
  rw [← hn1] at h1 a1 x0 ⊢
  rw [← hn2] at h2 b1 x1 ⊢
  clear h ii iz is ib hn1 hn2
  go_enter Tryz.func25, Tryz.ntmps25
  go_wp2_with fail
  refine wp_loop_rounds 3 ?_
  rw [rounds_succ]
  go_wp2_with fail
  rw [rounds_succ]
  go_wp2_with fail
  rw [rounds_succ]
  go_wp2_with (first
    | (go_at_call 57; refine HG.out.mono ?_; rintro e w1 ⟨v', rfl, g1⟩; have y0 : w1.cell? ⟨g, 0, none⟩ = some (.slice A1 n1 c1) := g1.pull1.blk0.cell rfl; have y1 : w1.cell? ⟨g, 1, none⟩ = some (.slice A2 n2 c2) := g1.pull1.blk0.cell rfl; have G1 := hid (show Held w0 w1 (rRows 4 41 v' [] :: _) from g1); clear g1 x0 x1))
  refine wp_loop_rounds 3 ?_
  rw [rounds_succ]
  go_wp2_with (at_builtin; refine wpList_rows_held [] _ rfl _ _ 38 rfl 4 41 iI _ 48 Tryz.underlying38 HI.out.1 HI.out.2.1 HI.out.2.2.1 HI.out.2.2.2 rfl (by decide) _ [] rfl G1.out (.slice A1 n1 c1) (fun _ => True) (t1.map itRow) rfl (Held.its_rd G1.out.pull2) (itRow_one t1) ?c1 ?c2 ?c3)
  case c1 => rw [H1.out, List.length_nil]; omega
  case c2 => rw [H1.out, List.length_nil]; unfold maxLen; omega
  case c3 =>
    intro v2 w2 g2
    have z1 : w2.cell? ⟨g, 1, none⟩ = some (.slice A2 n2 c2) := g2.pull1.blk0.cell rfl
    have G2 := hid g2
    clear g2 y0 y1 G1
    go_wp2_with fail
    rw [rounds_succ]
    go_wp2_with (at_builtin; refine wpList_rows_held [] _ rfl _ _ 38 rfl 4 41 iI _ 48 Tryz.underlying38 HI.out.1 HI.out.2.1 HI.out.2.2.1 HI.out.2.2.2 rfl (by decide) _ (t1.map itRow) rfl G2.out (.slice A2 n2 c2) (fun _ => True) (t2.map itRow) rfl (Held.its_rd G2.out.pull3) (itRow_one t2) ?d1 ?d2 ?d3)
    case d1 => rw [H1.out, H2.out]; omega
    case d2 => rw [H1.out, H2.out]; unfold maxLen; omega
    case d3 =>
      intro v3 w3 g3
      rw [← List.map_append] at g3
      have G3 := hid g3
      clear g3 G2
      go_wp2_with fail
      rw [rounds_succ]
      go_wp2_with fail
      go_ret
      exact ⟨_, rfl, G3.out⟩
end Go.Proofs.YtdbhccehbjhbpaaGreatDoor
