/- seglog's laws: opening behind a crash, plain; Open over Held. -/
import Derived.Test.YtbpgclhpbiohpaaGreatDoorU2
namespace Go.Proofs.YtbpgclhpbiohpaaGreatDoor
open Go.RowKit
open Slog (Lg recsOf Chain nameB Holds Seg)
open Disk (Dk Dict)

/-- the log that is opened behind a crash. -/
structure Reopened (d' : Dk) (l m : Lg) : Prop where
  left : Slog.Left d' m.segs
  chain : Chain m.from_ m.segs m.next
  low : 1 ≤ m.from_ ∧ (m.segs = [] → m.from_ = 1)
  pos : ∀ ls s, m.segs = ls ++ [s] → ∀ t ∈ ls, 0 < t.2.length
  small : ∀ s ∈ m.segs, ∀ r ∈ s.2, r.length ≤ 65535
  from_ : m.from_ = l.from_
  least : l.mark ≤ m.next
  most : m.next ≤ l.next
  mark : m.mark = m.next
  recs : recsOf m.segs = (recsOf l.segs).take (m.next - l.from_)
  pend : d'.pending = []
theorem crash_pend (d : Dk) (keep : List Bool) (tear : Int) : (d.crash keep tear).pending = [] := rfl
theorem Slog.Good.reopen {d : Dk} {l : Lg} (h : Slog.Good d l) (keep : List Bool) (tear : Int) : ∃ m, Reopened (d.crash keep tear) l m := by
  obtain ⟨segs, next, e1, e2, e3, e4, e5, e6, e7, e8⟩ := h.crash keep tear
  exact ⟨⟨segs, l.from_, next, next⟩, e1, e2, ⟨h.low.1, e7⟩, e6, e8, rfl, e3, e4, rfl, e5, crash_pend d keep tear⟩
theorem Reopened.good {d' : Dk} {l m : Lg} (h : Reopened d' l m) (hn : l.next ≤ 247) : Slog.Good (Slog.opened d' m.segs) m := by
  have h1 := h.left.open_ h.chain h.low h.pos ⟨by have := h.most; omega, h.small⟩
  have h2 := h.mark
  obtain ⟨a, b, c, e⟩ := m
  simp only at h2 h1 ⊢
  subst h2
  exact h1
/-- nothing waits behind opening, and a crash then changes nothing. -/
theorem opened_pend (d : Dk) (segs : List Seg) : (Slog.opened d segs).pending = [] := by
  unfold Slog.opened
  split <;> exact Disk.flush_pend _
theorem Reopened.again {d' : Dk} {l m : Lg} (h : Reopened d' l m) (hn : l.next ≤ 247) (keep : List Bool) (tear : Int) : Reopened ((Slog.opened d' m.segs).crash keep tear) m m := by
  have hg := h.good hn
  have hal := hg.ok.crash_alike (opened_pend d' m.segs) keep tear
  have hs : Holds ((Slog.opened d' m.segs).crash keep tear).seen m.segs := by
    have e : ∀ n, Dict.get ((Slog.opened d' m.segs).crash keep tear).seen n = Dict.get (Slog.opened d' m.segs).seen n := fun n => (hal n).symm
    exact ⟨fun t ht => by rw [e]; exact hg.seen.1 t ht, fun n x hx => by rw [e] at hx; exact hg.seen.2 n x hx⟩
  refine ⟨Slog.Holds.left (hg.ok.crash keep tear) hs, h.chain, h.low, h.pos, h.small, rfl, by rw [h.mark]; exact Nat.le_refl _, Nat.le_refl _, h.mark, ?_, rfl⟩
  have h1 := hg.recs_len
  rw [List.take_of_length_le (by omega)]

theorem lopen_held {w0 w : World} {B : List Res} {p : Nat} {d : Dk} {l m : Lg} (h : Held w0 w (rDisk p d :: B)) (hr : Reopened d l m) (hn : l.next ≤ 98) :
    Calls Tryz.prog 19 #[.pointer (some ⟨p, 0, none⟩)] w fun e w' => ∃ q, e = .returned (.tuple #[.pointer (some ⟨q, 0, none⟩), .int .i64 0]) ∧ Held w0 w' (rLog q p m.segs m.next :: rDisk p (Slog.opened d m.segs) :: B) :=
  open_held h hr.left hr.chain hr.low hr.pos hr.small (by have := hr.most; omega) (by rw [hr.pend]; simp)
end Go.Proofs.YtbpgclhpbiohpaaGreatDoor
