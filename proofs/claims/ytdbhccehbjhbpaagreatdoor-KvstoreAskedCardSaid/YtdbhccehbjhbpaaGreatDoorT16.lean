/- seglog: Append, Sync, Read, Trim's parts over a good log. -/
import Derived.Test.YtdbhccehbjhbpaaGreatDoorT15

namespace Go.Proofs.YtdbhccehbjhbpaaGreatDoor
open Go.RowKit
open Slog (Seg recsOf nameB Lg framed Chain)
open Disk (Dk)

theorem Slog.writes_length (f : Slog.Bytes) (l : List Slog.Bytes) : ∀ off k, (Slog.writes f off k l).length = l.length := by
  induction l with
  | nil => intro off k; rfl
  | cons r l ih => intro off k; simp [Slog.writes, ih]
theorem Slog.Good.pend_len {d : Dk} {l : Lg} (h : Slog.Good d l) : d.pending.length ≤ 247 := by
  rcases h.last with ⟨hp, -, -⟩ | ⟨ls, s, k, hs, -, -, hp, -⟩
  · rw [hp]; simp
  · have h1 := h.last_num hs
    have h2 := h.small.1
    rw [hp, Slog.writes_length, List.length_drop]
    omega
theorem Slog.chain_len {l : List Seg} : ∀ {k n : Nat}, Chain k l n → (∀ ls s, l = ls ++ [s] → ∀ t ∈ ls, 0 < t.2.length) → k + l.length ≤ n + 1 := by
  induction l with
  | nil => intro k n h _; have h' : k = n := h; subst h'; simp
  | cons s l ih =>
    intro k n h hp
    obtain ⟨h1, h2⟩ := (show s.1 = k ∧ Chain (k + s.2.length) l n from h)
    have h3 := ih h2 (Slog.pos_tail hp)
    cases l with
    | nil =>
      have h4 : k + s.2.length = n := h2
      simp
      omega
    | cons t l =>
      have h4 := Slog.pos_head hp (by simp)
      simp at h3 ⊢
      omega
theorem Slog.Good.segs_len {d : Dk} {l : Lg} (h : Slog.Good d l) : l.segs.length ≤ 248 := by
  have h1 := Slog.chain_len h.chain h.pos
  have h2 := h.small.1
  omega
theorem Slog.Good.recs_len {d : Dk} {l : Lg} (h : Slog.Good d l) : l.from_ + (recsOf l.segs).length = l.next := Slog.chain_count h.chain
theorem Slog.Good.rec_size {d : Dk} {l : Lg} (h : Slog.Good d l) : ∀ r ∈ recsOf l.segs, r.length ≤ 65535 := by
  intro r hr
  unfold recsOf at hr
  obtain ⟨s, hs, hr⟩ := List.mem_flatten.1 hr
  obtain ⟨t, ht, rfl⟩ := List.mem_map.1 hs
  exact h.small.2 t ht r hr

section
variable {w0 w : World} {B : List Res} {q p : Nat} {l : Lg} {d : Dk} {v : Value} {r : List UInt8} {R : Res}
theorem APost.put {wr : Dk × Int} {e : Ending} {w' : World} {l0 m : Lg} {next : Nat} (h : APost w0 B q p R wr l0.segs m.segs next e w') (h0 : l0.next = next) (h1 : m.next = next + 1) :
    e = .returned (.tuple #[.int .i64 (Slog.put wr l0 m next).2.2.1, .int .i64 (Slog.put wr l0 m next).2.2.2]) ∧ Held w0 w' (rLog q p (Slog.put wr l0 m next).2.1.segs (Slog.put wr l0 m next).2.1.next :: rDisk p (Slog.put wr l0 m next).1 :: R :: B) := by
  unfold APost at h
  unfold Slog.put
  by_cases he : wr.2 = 0
  · rw [if_pos he] at h ⊢
    simp only
    rw [h1]
    exact h
  · rw [if_neg he] at h ⊢
    simp only
    rw [h0]
    exact h
/-- Append over a good log. -/
theorem lappend_heldN {nm : Nat} (hnm : NameOk w0 nm) (hR : SrcR w0 R v (bytesV r)) (h : Held w0 w (rLog q p l.segs l.next :: rDisk p d :: R :: B)) (hg : Slog.Good d l) (hn0 : l.next < nm) (hn : l.next ≤ 245) (hr2 : r.length ≤ 70368744177664) :
    Calls Tryz.prog 39 #[.pointer (some ⟨q, 0, none⟩), v] w fun e w' => e = .returned (.tuple #[.int .i64 (Slog.append d l r).2.2.1, .int .i64 (Slog.append d l r).2.2.2]) ∧
      Held w0 w' (rLog q p (Slog.append d l r).2.1.segs (Slog.append d l r).2.1.next :: rDisk p (Slog.append d l r).1 :: R :: B) := by
  have hpl := hg.pend_len
  have hsl := hg.segs_len
  have hrl := hg.recs_len
  unfold Slog.append
  by_cases hlong : 65535 < r.length
  · rw [if_pos hlong]
    exact lappend_long hR h hn hlong hr2
  · rw [if_neg hlong]
    cases hgl : l.segs.getLast? with
    | none =>
      have hnil : l.segs = [] := List.getLast?_eq_none_iff.1 hgl
      simp only
      rw [hnil] at h
      refine (lappend_nil (l := []) hR h rfl hg.ok (by omega) hnm hn0 hn (by omega) (by simp [recsOf])).mono ?_
      intro e w' hp
      refine APost.put (m := l.addNew r) ?_ rfl rfl
      unfold Slog.Lg.addNew
      rw [hnil]
      exact hp
    | some s =>
      obtain ⟨ls, hls⟩ := List.getLast?_eq_some_iff.1 hgl
      have hnum := hg.last_num hls
      simp only
      by_cases hbig : 4096 ≤ s.bytes.length
      · rw [if_pos hbig]
        have hsy := hg.sync hls
        refine (lappend_full hR h hls (by omega) hnm (by omega) hbig hsy.1 (by rw [hsy.2.2.1]; simp) hg.ok (by omega) hn0 hn (by omega) (by omega)).mono ?_
        intro e w' hp
        exact APost.put (l0 := l.marked) (m := l.marked.addNew r) hp rfl rfl
      · rw [if_neg hbig]
        refine (lappend_more hR h hls (by omega) hnm (by omega) (by omega) (by omega) hg.ok (by omega) hn0 hn (by omega) (by omega)).mono ?_
        intro e w' hp
        refine APost.put (m := l.addMore s r) ?_ rfl rfl
        unfold Slog.Lg.addMore
        rw [hls, List.dropLast_concat]
        rw [← hls]
        exact hp
theorem lappend_held (hR : SrcR w0 R v (bytesV r)) (h : Held w0 w (rLog q p l.segs l.next :: rDisk p d :: R :: B)) (hg : Slog.Good d l) (hn : l.next ≤ 98) (hr2 : r.length ≤ 70368744177664) :
    Calls Tryz.prog 39 #[.pointer (some ⟨q, 0, none⟩), v] w fun e w' => e = .returned (.tuple #[.int .i64 (Slog.append d l r).2.2.1, .int .i64 (Slog.append d l r).2.2.2]) ∧
      Held w0 w' (rLog q p (Slog.append d l r).2.1.segs (Slog.append d l r).2.1.next :: rDisk p (Slog.append d l r).1 :: R :: B) := lappend_heldN (nameOk_100 w0) hR h hg (by omega) (by omega) hr2
/-- Sync over a good log. -/
theorem lsync_heldN {nm : Nat} (hnm : NameOk w0 nm) (h : Held w0 w (rLog q p l.segs l.next :: rDisk p d :: B)) (hg : Slog.Good d l) (hn : l.next < nm) :
    Calls Tryz.prog 58 #[.pointer (some ⟨q, 0, none⟩)] w fun e w' => e = .returned (.int .i64 0) ∧
      Held w0 w' (rLog q p (Slog.sync d l).2.1.segs (Slog.sync d l).2.1.next :: rDisk p (Slog.sync d l).1 :: B) := by
  have hpl := hg.pend_len
  have hsy := hg.synced
  have h0 := hsy.2.1
  unfold Slog.sync at h0 ⊢
  cases hgl : l.segs.getLast? with
  | none =>
    have hnil : l.segs = [] := List.getLast?_eq_none_iff.1 hgl
    simp only
    rw [hnil] at h ⊢
    exact lsync_none h
  | some s =>
    obtain ⟨ls, hls⟩ := List.getLast?_eq_some_iff.1 hgl
    have hnum := hg.last_num hls
    rw [hgl] at h0
    simp only at h0 ⊢
    have := lsync_last h hg.ok (by omega) hls hnm (by omega)
    rw [h0] at this
    exact this
theorem lsync_held (h : Held w0 w (rLog q p l.segs l.next :: rDisk p d :: B)) (hg : Slog.Good d l) (hn : l.next ≤ 98) :
    Calls Tryz.prog 58 #[.pointer (some ⟨q, 0, none⟩)] w fun e w' => e = .returned (.int .i64 0) ∧
      Held w0 w' (rLog q p (Slog.sync d l).2.1.segs (Slog.sync d l).2.1.next :: rDisk p (Slog.sync d l).1 :: B) := lsync_heldN (nameOk_100 w0) h hg (by omega)
/-- Read over a good log. -/
theorem lread_good (h : Held w0 w (rLog q p l.segs l.next :: B)) (hg : Slog.Good d l) (from_ : Int) :
    Calls Tryz.prog 60 #[.pointer (some ⟨q, 0, none⟩), .int .i64 from_] w fun e w' => ∃ v, e = .returned v ∧ Held w0 w' (rRecs v (readFrom l.from_ (recsOf l.segs) from_) :: rLog q p l.segs l.next :: B) := by
  have h1 := hg.recs_len
  have h2 := hg.small.1
  have := lread_held h (by omega) (by omega) (fun r hr => by have := hg.rec_size r hr; omega) from_
  rwa [show l.next - (recsOf l.segs).length = l.from_ by omega] at this
theorem lfirst_good (h : Held w0 w (rLog q p l.segs l.next :: B)) (hg : Slog.Good d l) :
    Calls Tryz.prog 62 #[.pointer (some ⟨q, 0, none⟩)] w fun e w' => e = .returned (.int .i64 l.from_) ∧ Held w0 w' (rLog q p l.segs l.next :: B) := by
  have h1 := hg.recs_len
  have h2 := hg.small.1
  have := lfirst_held h (by omega) (by omega)
  rwa [show l.next - (recsOf l.segs).length = l.from_ by omega] at this
end
end Go.Proofs.YtdbhccehbjhbpaaGreatDoor
