/- seglog's laws: what playing calls makes of a log, plain. -/
import Derived.Test.YtbpgclhpbiohpaaGreatDoorT19
namespace Go.Proofs.YtbpgclhpbiohpaaGreatDoor
open Slog (Lg recsOf)
open Disk (Dk)

structure LDo where
  op : Int
  b : List UInt8
  size : Int
  n : Int
  keep : List Bool
/-- a call's record. -/
def LDo.pad (k : LDo) : Nat := (k.size % 18446744073709551616 % 5000).toNat
def LDo.recB (k : LDo) : List UInt8 := k.b ++ List.replicate k.pad 0
theorem LDo.recB_len {k : LDo} (h : k.b.length ≤ 131072) : k.recB.length ≤ 140000 := by
  unfold LDo.recB LDo.pad
  rw [List.length_append, List.length_replicate]
  omega
def LDo.kind (k : LDo) : Nat := (k.op % 18446744073709551616 % 6).toNat

/-- the disk, the log, what was appended, how many were synced. -/
structure PS where
  d : Dk
  l : Lg
  all : List (List UInt8)
  synced : Nat
def PS.step (s : PS) (k : LDo) : PS :=
  if k.kind = 3 ∨ k.kind = 5 then ⟨(Slog.sync s.d s.l).1, (Slog.sync s.d s.l).2.1, s.all, s.all.length⟩
  else if k.kind = 4 then ⟨(Slog.trim s.d s.l k.n).1, (Slog.trim s.d s.l k.n).2, s.all, s.synced⟩
  else ⟨(Slog.append s.d s.l k.recB).1, (Slog.append s.d s.l k.recB).2.1, if (Slog.append s.d s.l k.recB).2.2.2 = 0 then s.all ++ [k.recB] else s.all, s.synced⟩
def PS.play (s : PS) (ds : List LDo) : PS := ds.foldl PS.step s
theorem PS.play_snoc (s : PS) (ds : List LDo) (k : LDo) : s.play (ds ++ [k]) = (s.play ds).step k := by unfold PS.play; rw [List.foldl_append]; rfl

structure Played (s : PS) (m : Nat) : Prop where
  good : Slog.Good s.d s.l
  next : s.l.next = s.all.length + 1
  recs : recsOf s.l.segs = s.all.drop (s.l.from_ - 1)
  few : s.all.length ≤ m
  mark : s.synced + 1 ≤ s.l.mark
theorem Played.of {d : Dk} {l : Lg} {all : List (List UInt8)} {sy m : Nat} (h1 : Slog.Good d l) (h2 : l.next = all.length + 1) (h3 : recsOf l.segs = all.drop (l.from_ - 1)) (h4 : all.length ≤ m) (h5 : sy + 1 ≤ l.mark) : Played ⟨d, l, all, sy⟩ m := ⟨h1, h2, h3, h4, h5⟩
theorem Played.low {s : PS} {m : Nat} (h : Played s m) : 1 ≤ s.l.from_ ∧ s.l.from_ ≤ s.all.length + 1 := by
  have h1 := h.good.low.1
  have h2 := h.good.recs_len
  have h3 := h.next
  omega
theorem Played.begin {d : Dk} (hg : Slog.Good d ⟨[], 1, 1, 1⟩) : Played ⟨d, ⟨[], 1, 1, 1⟩, [], 0⟩ 0 := ⟨hg, rfl, rfl, Nat.le_refl _, Nat.le_refl _⟩
theorem Played.step {s : PS} {m : Nat} (h : Played s m) (hm : m ≤ 90) (k : LDo) : Played (s.step k) (m + 1) := by
  have hlow := h.low
  have hn := h.next
  have hf := h.few
  unfold PS.step
  split
  · obtain ⟨e1, e2, e3, e4, e5, e6, e7⟩ := h.good.synced
    refine Played.of e1 (by rw [e5]; exact hn) (by rw [e3, e4]; exact h.recs) (by omega) ?_
    by_cases hs : s.l.segs = []
    · have h1 := h.good.low.2 hs
      have h2 := h.good.recs_len
      rw [hs] at h2
      have h3 : (recsOf ([] : List Slog.Seg)).length = 0 := rfl
      have h4 := h.mark
      omega
    · rw [e6 hs]; omega
  · split
    · obtain ⟨e1, e2⟩ := h.good.trimmed k.n
      refine Played.of e1 (by rw [e2.next]; exact hn) ?_ (by omega) (Nat.le_trans h.mark e2.mark)
      have h1 := e2.recs
      unfold Slog.Lg.recs at h1
      rw [h1, h.recs, List.drop_drop]
      congr 1
      have := e2.low.1
      omega
    · obtain ⟨e1, e2⟩ := h.good.append (by omega) k.recB
      by_cases he : (Slog.append s.d s.l k.recB).2.2.2 = 0
      · obtain ⟨f1, f2, f3, f4, f5⟩ := e2.done he
        rw [if_pos he]
        refine Played.of e1 (by rw [f2, List.length_append, List.length_singleton]; omega) ?_ (by rw [List.length_append, List.length_singleton]; omega) (Nat.le_trans h.mark e2.mark)
        unfold Slog.Lg.recs at f3
        rw [f3, h.recs, e2.from_, List.drop_append_of_le_length (by omega)]
      · obtain ⟨f1, f2, f3, f4⟩ := e2.not he
        rw [if_neg he]
        refine Played.of e1 (by rw [f2]; exact hn) ?_ (by omega) (Nat.le_trans h.mark e2.mark)
        rw [f3, e2.from_]
        exact h.recs
theorem Played.play {s : PS} {m : Nat} (h : Played s m) : ∀ (ds : List LDo), m + ds.length ≤ 90 → Played (s.play ds) (m + ds.length) := by
  intro ds
  induction ds generalizing s m with
  | nil => intro _; exact h
  | cons k ds ih =>
    intro hl
    simp only [List.length_cons] at hl
    have := ih (h.step (by omega) k) (by omega)
    rw [List.length_cons, show m + (ds.length + 1) = m + 1 + ds.length by omega]
    exact this
end Go.Proofs.YtbpgclhpbiohpaaGreatDoor
