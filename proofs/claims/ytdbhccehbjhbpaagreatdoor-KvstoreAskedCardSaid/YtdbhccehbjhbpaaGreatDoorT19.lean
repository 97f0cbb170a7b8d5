/- seglog: Trim over a good log; what Open finds, plain. -/
import Derived.Test.YtdbhccehbjhbpaaGreatDoorT18

namespace Go.Proofs.YtdbhccehbjhbpaaGreatDoor
open Go.RowKit
open Slog (Seg recsOf nameB Lg framed Chain trimF dropped Holds Left framesOf unframe Small)
open Disk (Dk Dict)

/-- what trimming makes of a log and its disk. -/
def Slog.cutLg (l : Lg) (tt : Int) : Lg := ⟨trimF l.segs tt, l.next - (recsOf (trimF l.segs tt)).length, l.next, l.next⟩
def Slog.trim (d : Dk) (l : Lg) (tt : Int) : Dk × Lg :=
  match l.segs with
  | _ :: t :: _ => if (t.1 : Int) ≤ tt then ((dropped d l.segs tt).flush, Slog.cutLg l tt) else (d, l)
  | _ => (d, l)
structure Slog.Trimmed (l m : Lg) (tt : Int) : Prop where
  next : m.next = l.next
  recs : m.recs = l.recs.drop (m.from_ - l.from_)
  low : l.from_ ≤ m.from_ ∧ (m.from_ = l.from_ ∨ (m.from_ : Int) ≤ tt)
  segs : m.segs.length ≤ l.segs.length ∧ (l.segs ≠ [] → m.segs ≠ [])
  mark : l.mark ≤ m.mark
theorem Slog.Trimmed.refl (l : Lg) (tt : Int) : Slog.Trimmed l l tt := ⟨rfl, by simp, ⟨Nat.le_refl _, .inl rfl⟩, ⟨Nat.le_refl _, id⟩, Nat.le_refl _⟩
theorem Slog.Good.trimmed {d : Dk} {l : Lg} (h : Slog.Good d l) (tt : Int) : Slog.Good (Slog.trim d l tt).1 (Slog.trim d l tt).2 ∧ Slog.Trimmed l (Slog.trim d l tt).2 tt := by
  unfold Slog.trim
  split
  · rename_i s t m hsegs
    split
    · rename_i hle
      obtain ⟨j, pre, e1, e2, e3, e4, e5⟩ := h.trim tt
      have hcn := Slog.chain_count e5.chain
      have hcp := Slog.chain_count e2
      simp only at hcn
      have hj : l.next - (recsOf (trimF l.segs tt)).length = j := by omega
      have hcut : Slog.cutLg l tt = ⟨trimF l.segs tt, j, l.next, l.next⟩ := by unfold Slog.cutLg; rw [hj]
      rw [hcut]
      refine ⟨e5, rfl, ?_, ⟨by show l.from_ ≤ j; omega, e3⟩, ⟨?_, e4⟩, h.mark_le⟩
      · show recsOf (trimF l.segs tt) = (recsOf l.segs).drop (j - l.from_)
        have : recsOf l.segs = recsOf pre ++ recsOf (trimF l.segs tt) := by conv => lhs; rw [e1, Slog.recsOf_append]
        rw [this, show j - l.from_ = (recsOf pre).length by omega, List.drop_left]
      · show (trimF l.segs tt).length ≤ l.segs.length
        conv => rhs; rw [e1]
        rw [List.length_append]
        omega
    · exact ⟨h, Slog.Trimmed.refl l tt⟩
  · exact ⟨h, Slog.Trimmed.refl l tt⟩

section
variable {w0 w : World} {B : List Res} {q p : Nat} {l : Lg} {d : Dk}
theorem ltrim_good (h : Held w0 w (rLog q p l.segs l.next :: rDisk p d :: B)) (hg : Slog.Good d l) (hn : l.next ≤ 98) (tt : Int) :
    Calls Tryz.prog 65 #[.pointer (some ⟨q, 0, none⟩), .int .i64 tt] w fun e w' => e = .returned (.int .i64 0) ∧ Held w0 w' (rLog q p (Slog.trim d l tt).2.segs (Slog.trim d l tt).2.next :: rDisk p (Slog.trim d l tt).1 :: B) := by
  have hpl := hg.pend_len
  have hsl := hg.segs_len
  have hT : Trims tt l.next l.segs d l.segs d := ⟨rfl, rfl, hg.ok, hg.seen, ⟨_, hg.chain⟩, hg.pos, by omega⟩
  unfold Slog.trim
  cases hs : l.segs with
  | nil => simp only; rw [hs] at h ⊢; exact ltrim_few h tt (by simp)
  | cons s m =>
    cases m with
    | nil => simp only; rw [hs] at h ⊢; exact ltrim_few h tt (by simp)
    | cons t m =>
      simp only
      by_cases hle : (t.1 : Int) ≤ tt
      · rw [if_pos hle]
        unfold Slog.cutLg
        simp only
        rw [hs] at h hT ⊢
        exact ltrim_go h tt hle hT hn
      · rw [if_neg hle]
        rw [hs] at h ⊢
        exact ltrim_not h tt hle
end

/-! ### what Open finds -/
theorem Slog.Left.file {d : Dk} {segs : List Seg} (h : Left d segs) (hb : ∀ s ∈ segs, s.1 < 1000) {i : Nat} (hi : i < segs.length) :
    ∃ z, d.read (nameB segs[i].1) = (framesOf segs[i].1 segs[i].2 ++ z, 0) ∧ unframe z = none ∧ (i + 1 < segs.length → z = []) := by
  have hm := Slog.may_name (hb _ (List.getElem_mem hi))
  rcases List.eq_nil_or_concat segs with rfl | ⟨ls, s, hs⟩
  · simp at hi
  rw [List.concat_eq_append] at hs
  obtain ⟨h1, c, h2, z, hz, hu⟩ := h.whole ls s hs
  by_cases hil : i < ls.length
  · have e : segs[i] = ls[i] := by subst hs; rw [List.getElem_append_left hil]
    have h3 := h1 ls[i] (List.getElem_mem hil)
    refine ⟨[], ?_, Slog.unframe_nil, fun _ => rfl⟩
    rw [e] at hm ⊢
    unfold Dk.read
    rw [if_neg (by rw [hm]; simp), h3, List.append_nil]
    rfl
  · have hil2 : i = ls.length := by subst hs; simp at hi; omega
    have e : segs[i] = s := by subst hs hil2; simp
    refine ⟨z, ?_, hu, fun hlt => by subst hs; simp at hlt; omega⟩
    rw [e] at hm ⊢
    unfold Dk.read
    rw [if_neg (by rw [hm]; simp), h2, hz]
theorem Slog.chain_at {segs : List Seg} {k n i : Nat} (hc : Chain k segs n) (hi : i < segs.length) : segs[i].1 = k + (recsOf (segs.take i)).length ∧ segs[i].1 + segs[i].2.length ≤ n := by
  have h1 : segs = segs.take i ++ segs[i] :: segs.drop (i + 1) := by rw [← List.drop_eq_getElem_cons hi, List.take_append_drop]
  have h2 := (Slog.chain_in hc).2 segs[i] (List.getElem_mem hi)
  rw [h1] at hc
  obtain ⟨j, hj1, hj2⟩ := Slog.chain_append.1 hc
  have h3 := Slog.chain_count hj1
  have h4 : segs[i].1 = j := (show segs[i].1 = j ∧ _ from hj2).1
  exact ⟨by omega, h2.2⟩
theorem recsOf_take {segs : List Seg} {i : Nat} (hi : i < segs.length) : recsOf (segs.take (i + 1)) = recsOf (segs.take i) ++ segs[i].2 := by
  rw [List.take_succ_eq_append_getElem hi, Slog.recsOf_append, Slog.recsOf_one]
end Go.Proofs.YtdbhccehbjhbpaaGreatDoor
