/- seglog: Trim over Held. -/
import Derived.Test.YtdbhccehbjhbpaaGreatDoorT16

namespace Go.Proofs.YtdbhccehbjhbpaaGreatDoor
open Go.RowKit
open Slog (Seg recsOf nameB Lg framed Chain trimF dropped Holds)
open Disk (Dk)

set_option maxRecDepth 100000 in
theorem slice_recs {S : Nat → Prop} {w : World} {A : Option Addr} {n c : Nat} {xs : List Value} (h : Rd S w (.slice A n c) xs) {m : Nat} (hm : m ≤ n) :
    ∃ A' c', (∀ w', (Instr.slice 104 (.slice A n c) (some (.int .i64 m)) none none).run Tryz.prog w' = .ok (.slice A' (n - m) c') w') ∧ Rd S w (.slice A' (n - m) c') (xs.drop m) := by
  obtain ⟨i0, hi, -, hz1, -⟩ := info_parts Tryz.infoBytes
  refine ⟨_, _, fun w' => ?_, h.drop hm⟩
  rw [run_slice_l w' 104 A n c Tryz.underlying104 .i64 (m : Int) (by omega) (by omega)]
  have e : Tryz.prog.elem 104 = 87 := by kernel_rfl
  rw [e]
  have hs : (sizeOf 87).run Tryz.prog w' = .ok 1 w' := by simp [sizeOf, typeInfo, hi, hz1]
  rw [hs]
  simp [Result.andThen, sliced]
set_option maxRecDepth 100000 in
theorem slice_segs (g n c : Nat) (hn : n + 2 ≤ c) (w' : World) : (Instr.slice 128 (.slice (some ⟨g, 0, none⟩) (n + 2) c) (some (.int .i64 1)) none none).run Tryz.prog w' = .ok (.slice (some ⟨g, 2, none⟩) (n + 1) (c - 1)) w' := by
  obtain ⟨i0, hi, -, hz1, -⟩ := info_parts Tryz.infoSeg
  rw [run_slice_l w' 128 (some ⟨g, 0, none⟩) (n + 2) c Tryz.underlying128 .i64 1 (by omega) (by omega)]
  have e : Tryz.prog.elem 128 = 134 := by kernel_rfl
  rw [e]
  have hs : (sizeOf 134).run Tryz.prog w' = .ok 2 w' := by simp [sizeOf, typeInfo, hi, hz1]
  rw [hs]
  have hc : c ≠ 1 := by omega
  simp [Result.andThen, sliced, hc, Addr.add]

theorem trimF_stop {s t : Seg} {m : List Seg} {tt : Int} (h : ¬ (t.1 : Int) ≤ tt) : trimF (s :: t :: m) tt = s :: t :: m := by unfold trimF; rw [if_neg h]
theorem dropped_stop {s t : Seg} {m : List Seg} {tt : Int} {d : Dk} (h : ¬ (t.1 : Int) ≤ tt) : dropped d (s :: t :: m) tt = d := by unfold dropped; rw [if_neg h]

theorem trimF_go {s t : Seg} {m : List Seg} {tt : Int} (h : (t.1 : Int) ≤ tt) : trimF (s :: t :: m) tt = trimF (t :: m) tt := by conv => lhs; unfold trimF; rw [if_pos h]
theorem dropped_go {s t : Seg} {m : List Seg} {tt : Int} {d : Dk} (h : (t.1 : Int) ≤ tt) : dropped d (s :: t :: m) tt = dropped (d.drop (nameB s.1)).1 (t :: m) tt := by conv => lhs; unfold dropped; rw [if_pos h]
/-- the plain part of what a round of Trim finds. -/
structure Trims (tt : Int) (next : Nat) (l0 : List Seg) (d0 : Dk) (m : List Seg) (d : Dk) : Prop where
  segs : trimF m tt = trimF l0 tt
  disk : dropped d m tt = dropped d0 l0 tt
  ok : d.Ok
  seen : Holds d.seen m
  chain : ∃ k, Chain k m next
  pos : ∀ ls u, m = ls ++ [u] → ∀ t ∈ ls, 0 < t.2.length
  pend : d.pending.length + m.length ≤ 1000
theorem Trims.step {tt : Int} {next : Nat} {l0 : List Seg} {d0 : Dk} {s t : Seg} {m : List Seg} {d : Dk} (h : Trims tt next l0 d0 (s :: t :: m) d) (hle : (t.1 : Int) ≤ tt) (hn : next ≤ 98) :
    (d.drop (nameB s.1)).2 = 0 ∧ Trims tt next l0 d0 (t :: m) (d.drop (nameB s.1)).1 ∧ s.1 + s.2.length = t.1 ∧ s.1 < 100 := by
  obtain ⟨k, hk⟩ := h.chain
  obtain ⟨h1, h2⟩ := (show s.1 = k ∧ Chain (k + s.2.length) (t :: m) next from hk)
  have h3 := (show t.1 = k + s.2.length ∧ _ from h2).1
  have h4 := Slog.chain_in hk
  have h5 := h4.2 s (by simp)
  have hp := Slog.pos_head h.pos (by simp)
  have h6 := Slog.chain_in h2
  have hap : ∀ u ∈ t :: m, nameB u.1 ≠ nameB s.1 := by
    intro u hu e
    have h7 := h6.2 u hu
    have := Slog.name_inj (by omega) (by omega) e
    omega
  obtain ⟨e1, e2, e3⟩ := Slog.drop_front h.ok h.seen (by omega) hap
  have hdp : (d.drop (nameB s.1)).1.pending.length ≤ d.pending.length + 1 := by
    unfold Dk.drop
    split
    · simp
    · split
      · simp
      · simp [Dk.act]
  have q1 := h.segs
  have q2 := h.disk
  rw [trimF_go hle] at q1
  rw [dropped_go hle] at q2
  have := h.pend
  refine ⟨e1, ⟨q1, q2, e2, e3, ⟨_, h2⟩, Slog.pos_tail h.pos, ?_⟩, by omega, by omega⟩
  simp at this ⊢
  omega
theorem Trims.recs {tt : Int} {next : Nat} {l0 : List Seg} {d0 : Dk} {m : List Seg} {d : Dk} (h : Trims tt next l0 d0 m d) : (recsOf m).length ≤ next ∧ m.length ≤ 1000 := by
  obtain ⟨k, hk⟩ := h.chain
  have := Slog.chain_count hk
  have := h.pend
  omega
def TrimAt (w0 : World) (B : List Res) (q p next : Nat) (l0 : List Seg) (d0 : Dk) (tt : Int) (wr : World) : Prop :=
  ∃ (m : List Seg) (d : Dk), Held w0 wr (rLog q p m next :: rDisk p d :: B) ∧ Trims tt next l0 d0 m d
def lenAt (q : Nat) (wr : World) : Nat := match wr.cell? ⟨q, 1, none⟩ with | some (.slice _ n _) => n | _ => 0

section
variable {w0 w : World} {B : List Res} {q p next : Nat} {l : List Seg} {d : Dk}
theorem Held.lenAt (h : Held w0 w (rLog q p l next :: B)) : lenAt q w = l.length := by
  obtain ⟨sA, sc, rA, rc, h2, h3, h4, h5, c0, c1, c2, c3⟩ := h.lseen
  unfold Go.Proofs.YtdbhccehbjhbpaaGreatDoor.lenAt
  rw [c1]
/-- the first two segments, seen. -/
theorem two_seen {g n sc : Nat} {s t : Seg} {m : List Seg} (h : Held w0 w (rRows 2 134 (.slice (some ⟨g, 0, none⟩) n sc) ((s :: t :: m).map segRow) :: B)) :
    w.cell? ⟨g, 0, none⟩ = some (.int .i64 s.1) ∧ w.cell? ⟨g, 2, none⟩ = some (.int .i64 t.1) := by
  have h1 := (seg_cells (l := s :: t :: m) h (j := 0) (by simp)).1
  have h2 := (seg_cells (l := s :: t :: m) h (j := 1) (by simp)).1
  exact ⟨h1, h2⟩
/-- all cells of a row of rows. -/
theorem Held.rows_flat {k g n c : Nat} {e : TypeId} {rows : List (List Value)} (h : Held w0 w (rRows k e (.slice (some ⟨g, 0, none⟩) n c) rows :: B)) : ∀ j u, rows.flatten[j]? = some u → w.cell? ⟨g, j, none⟩ = some u := by
  intro j u hu
  obtain ⟨F, hF⟩ := Held.get (l1 := []) h
  obtain ⟨hl, ⟨⟨h1, h2⟩, -⟩⟩ := hF
  rcases h2 with ⟨hv, hz⟩ | ⟨g', cap, cur, hv, -, hg, r1, r2, r3, r4⟩
  · cases hv
  · injection hv with e1 e2 e3
    injection e1 with e1
    injection e1 with e1
    subst e1
    rw [← r4, List.getElem?_take] at hu
    split at hu
    · simp only [World.cell?, hg, Option.isSome_none, Bool.false_eq_true, if_false]
      simpa using hu
    · cases hu
theorem own_rows {e : TypeId} {k : Nat} {v : Value} {rows : List (List Value)} {F : List Nat} (hl : ∀ r ∈ rows, r.length = k) (h : Own e k v rows.length rows.flatten w F) : (rRows k e v rows).holds w F := ⟨hl, h⟩
theorem segRows_two (l : List Seg) : ∀ r ∈ l.map segRow, r.length = 2 := by
  intro r hr
  obtain ⟨s, -, rfl⟩ := List.mem_map.1 hr
  rfl
theorem segRows_one (l : List Seg) : ∀ u ∈ (l.map segRow).flatten, u.oneCell' = true := by
  intro u hu
  obtain ⟨r, hr, hu⟩ := List.mem_flatten.1 hu
  obtain ⟨s, -, rfl⟩ := List.mem_map.1 hr
  unfold segRow at hu
  simp only [List.mem_cons, List.not_mem_nil, or_false] at hu
  rcases hu with rfl | rfl <;> rfl
theorem recsOf_drop (s : Seg) (l : List Seg) : (recsOf (s :: l)).drop s.2.length = recsOf l := by
  have : recsOf (s :: l) = s.2 ++ recsOf l := rfl
  rw [this, List.drop_left]
theorem recs_one {bvs : List Value} {rs : List (List UInt8)} (hl : bvs.length = rs.length) (h : Held w0 w (rBig bytesLoc (bvs.zip rs) :: B)) : ∀ u ∈ bvs, u.oneCell' = true := by
  intro u hu
  obtain ⟨i, hi, rfl⟩ := List.mem_iff_getElem.1 hu
  have hir : i < rs.length := by omega
  have hz : bvs.zip rs = (bvs.zip rs).take i ++ (bvs[i], rs[i]) :: (bvs.zip rs).drop (i + 1) := by
    conv => lhs; rw [← List.take_append_drop i (bvs.zip rs)]
    congr 1
    rw [List.drop_eq_getElem_cons (by simp; omega), List.getElem_zip]
  rw [hz] at h
  have h3 := Held.big_uncons (l1 := [_]) bytesLoc (Held.big_split (l1 := []) bytesLoc h)
  obtain ⟨bA, bc, hb, -, -⟩ := Held.form (l1 := [_]) h3
  rw [show bvs[i] = _ from hb]
  rfl
/-- rows cut in front and copied. -/
theorem Held.recs_cut {v' v : Value} {bvs : List Value} {rs : List (List UInt8)} {k : Nat} (hl : bvs.length = rs.length) (h : Held w0 w (rOwn 87 v' (bvs.drop k) :: rOwn 87 v bvs :: rBig bytesLoc (bvs.zip rs) :: B)) : Held w0 w (rRecs v' (rs.drop k) :: B) := by
  have h1 := h.pull1.drop0
  refine Held.recs_shut (bvs.drop k) (by simp [hl]) ?_
  refine Held.big_sub (l1 := [_]) bytesLoc ?_ h1
  rw [show (bvs.drop k).zip (rs.drop k) = (bvs.zip rs).drop k by unfold List.zip; exact List.drop_zipWith.symm]
  exact List.drop_sublist k _
end
end Go.Proofs.YtdbhccehbjhbpaaGreatDoor
