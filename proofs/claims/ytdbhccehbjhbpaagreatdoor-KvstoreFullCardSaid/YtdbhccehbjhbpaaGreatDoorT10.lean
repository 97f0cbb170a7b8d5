/- seglog: a log in memory; made, First, Next, Segments, Bytes. -/
import Derived.Test.YtdbhccehbjhbpaaGreatDoorT9
import Derived.Test.YtdbhccehbjhbpaaGreatDoorM3
import Derived.Test.YtdbhccehbjhbpaaGreatDoorM5
import Derived.BigQuiet
namespace Go.Proofs.YtdbhccehbjhbpaaGreatDoor
open Go.RowKit
open Slog (Seg recsOf nameB)
open Disk (Dk)

def segRow (s : Seg) : List Value := [.int .i64 s.1, .int .i64 s.bytes.length]
def logRes (q p : Nat) (l : List Seg) (next : Nat) (i : Value × Value) : List Res :=
  [rBlk q 130 #[.pointer (some ⟨p, 0, none⟩), i.1, i.2, .int .i64 next], rRows 2 134 i.1 (l.map segRow), rRecs i.2 (recsOf l)]
/-- a log. -/
def rLog (q p : Nat) (l : List Seg) (next : Nat) : Res := rSome (fun _ : Value × Value => True) (logRes q p l next)

section
variable {w0 w : World} {B : List Res} {q p next : Nat} {l : List Seg}
theorem Held.lopen (h : Held w0 w (rLog q p l next :: B)) : ∃ gs gr, Held w0 w (rBlk q 130 #[.pointer (some ⟨p, 0, none⟩), gs, gr, .int .i64 next] :: rRows 2 134 gs (l.map segRow) :: rRecs gr (recsOf l) :: B) := by
  obtain ⟨⟨v, u⟩, -, h1⟩ := Held.open_some (l1 := []) h
  exact ⟨v, u, by simpa [logRes] using h1⟩
theorem Held.lshut {gs gr : Value} (h : Held w0 w (rBlk q 130 #[.pointer (some ⟨p, 0, none⟩), gs, gr, .int .i64 next] :: rRows 2 134 gs (l.map segRow) :: rRecs gr (recsOf l) :: B)) : Held w0 w (rLog q p l next :: B) :=
  Held.close_some (l1 := []) (q := fun _ : Value × Value => True) (Rs' := logRes q p l next) (gs, gr) trivial (by simpa [logRes] using h)
/-- what is seen of it. -/
theorem Held.lseen (h : Held w0 w (rLog q p l next :: B)) : ∃ sA sc rA rc, l.length ≤ sc ∧ sc ≤ 9223372036854775807 ∧ (recsOf l).length ≤ rc ∧ rc ≤ 9223372036854775807 ∧
    w.cell? ⟨q, 0, none⟩ = some (.pointer (some ⟨p, 0, none⟩)) ∧ w.cell? ⟨q, 1, none⟩ = some (.slice sA l.length sc) ∧ w.cell? ⟨q, 2, none⟩ = some (.slice rA (recsOf l).length rc) ∧ w.cell? ⟨q, 3, none⟩ = some (.int .i64 next) := by
  obtain ⟨gs, gr, h1⟩ := h.lopen
  obtain ⟨sA, sc, rfl, h2, h3⟩ := Held.rows_form (l1 := [_]) h1
  obtain ⟨rA, rc, rfl, h4, h5⟩ := h1.pull2.recs_form
  have hb := h1.blk0
  rw [List.length_map] at h2 hb
  exact ⟨sA, sc, rA, rc, h2, h3, h4, h5, hb.cell rfl, hb.cell rfl, hb.cell rfl, hb.cell rfl⟩
end

/-- a row of the segments is read. -/
theorem Held.seg_at {w0 w : World} {B : List Res} {l : List Seg} {v : Value} (h : Held w0 w (rRows 2 134 v (l.map segRow) :: B)) {j : Nat} (hj : j < l.length) :
    ∃ g c, v = .slice (some ⟨g, 0, none⟩) l.length c ∧ l.length ≤ c ∧ w.cell? ⟨g, j * 2, none⟩ = some (.int .i64 l[j].1) ∧ w.cell? ⟨g, j * 2 + 1, none⟩ = some (.int .i64 l[j].bytes.length) := by
  obtain ⟨g, c, hv, hc1, -, hc⟩ := Held.row_at (j := j) (r := segRow l[j]) h (by rw [List.getElem?_map, List.getElem?_eq_getElem hj]; rfl)
  rw [List.length_map] at hv hc1
  exact ⟨g, c, hv, hc1, hc 0 _ rfl, hc 1 _ rfl⟩

theorem lmade_any (w : World) (q p : Nat) (hq : w.cell? ⟨q, 0, none⟩ = some (.pointer (some ⟨p, 0, none⟩))) :
    Calls Tryz.prog 69 #[.pointer (some ⟨q, 0, none⟩)] w fun e w' => e = .returned (.bool true) ∧ w' = w := by
  go_enter Tryz.func69, Tryz.ntmps69
  go_wp2
  go_ret
  exact ⟨rfl, rfl⟩

section
variable {w0 w : World} {B : List Res} {q p next : Nat} {l : List Seg}
set_option maxRecDepth 100000 in
theorem lfirst_any (w : World) (q p next n rc : Nat) (rA : Option Addr) (c0 : w.cell? ⟨q, 0, none⟩ = some (.pointer (some ⟨p, 0, none⟩))) (c2 : w.cell? ⟨q, 2, none⟩ = some (.slice rA n rc)) (c3 : w.cell? ⟨q, 3, none⟩ = some (.int .i64 next)) (hk : n ≤ next) (hn : next ≤ 9223372036854775807) :
    Calls Tryz.prog 62 #[.pointer (some ⟨q, 0, none⟩)] w fun e w' => e = .returned (.int .i64 ((next - n : Nat) : Int)) ∧ ∃ j, w' = w.drewN j := by
  have HM := hid (lmade_any w q p c0)
  go_enter Tryz.func62, Tryz.ntmps62
  go_wp2_with (first | (go_at_call 69; refine HM.out.mono ?_; rintro e w' ⟨rfl, rfl⟩))
  go_quiet (fail)
  go_wp2_with fail
  go_ret
  refine ⟨?_, _, rfl⟩
  show Ending.returned (.int .i64 ((next : Int) - (n : Int))) = _
  congr 2
  omega
theorem lfirst_held (h : Held w0 w (rLog q p l next :: B)) (hk : (recsOf l).length ≤ next) (hn : next ≤ 9223372036854775807) :
    Calls Tryz.prog 62 #[.pointer (some ⟨q, 0, none⟩)] w fun e w' => e = .returned (.int .i64 ((next - (recsOf l).length : Nat) : Int)) ∧ Held w0 w' (rLog q p l next :: B) := by
  obtain ⟨sA, sc, rA, rc, h2, h3, h4, h5, c0, c1, c2, c3⟩ := h.lseen
  refine (lfirst_any w q p next _ rc rA c0 c2 c3 hk hn).mono ?_
  rintro e w' ⟨rfl, j, rfl⟩
  exact ⟨rfl, h.drewN j⟩
theorem lnext_held (h : Held w0 w (rLog q p l next :: B)) :
    Calls Tryz.prog 64 #[.pointer (some ⟨q, 0, none⟩)] w fun e w' => e = .returned (.int .i64 next) ∧ Held w0 w' (rLog q p l next :: B) := by
  obtain ⟨sA, sc, rA, rc, h2, h3, h4, h5, c0, c1, c2, c3⟩ := h.lseen
  have HM := hid (lmade_any w q p c0)
  have HH := hid h
  clear h
  go_enter Tryz.func64, Tryz.ntmps64
  go_wp2_with (first | (go_at_call 69; refine HM.out.mono ?_; rintro e w' ⟨rfl, rfl⟩))
  go_ret
  exact ⟨rfl, HH.out⟩

/-- what a log's bytes come to. -/
def bytesSum (l : List Seg) : Int := l.foldl (fun n s => IntKind.i64.wrap (n + (s.bytes.length : Int))) 0
set_option maxRecDepth 100000 in
set_option maxHeartbeats 1000000 in
theorem lbytes_held (h : Held w0 w (rLog q p l next :: B)) :
    Calls Tryz.prog 56 #[.pointer (some ⟨q, 0, none⟩)] w fun e w' => e = .returned (.int .i64 (bytesSum l)) ∧ Held w0 w' (rLog q p l next :: B) := by
  obtain ⟨gs, gr, h1⟩ := h.lopen
  obtain ⟨sA, sc, rfl, h2, h3⟩ := Held.rows_form (l1 := [_]) h1
  rw [List.length_map] at h1 h2
  have hb := h1.blk0
  have c0 : w.cell? ⟨q, 0, none⟩ = some (.pointer (some ⟨p, 0, none⟩)) := hb.cell rfl
  have c1 : w.cell? ⟨q, 1, none⟩ = some (.slice sA l.length sc) := hb.cell rfl
  have HM := hid (lmade_any w q p c0)
  have HH := hid h1
  clear h h1 hb
  go_enter Tryz.func56, Tryz.ntmps56
  go_wp2_with (first | (go_at_call 69; refine HM.out.mono ?_; rintro e w' ⟨rfl, rfl⟩))
  go_loopw [3, 13] (fun n i wr => ∃ k : Nat, k ≤ l.length ∧ i = .int .i64 k ∧ n = .int .i64 (bytesSum (l.take k)) ∧ Held w0 wr (rBlk q 130 #[.pointer (some ⟨p, 0, none⟩), .slice sA l.length sc, gr, .int .i64 next] :: rRows 2 134 (.slice sA l.length sc) (l.map segRow) :: rRecs gr (recsOf l) :: B)) (fun _ i _ => l.length - (intOf i).toNat)
  case atStart => exact ⟨0, Nat.zero_le _, rfl, rfl, HH.out⟩
  case round =>
    obtain ⟨k, hk, rfl, rfl, hh⟩ := hrel
    have HK := hid hh
    by_cases hlt : k < l.length
    · obtain ⟨g, c, hv, -, f0, f1⟩ := hh.pull1.seg_at hlt
      injection hv with hv1 hv2 hv3
      subst hv1 hv3
      clear hv2
      obtain ⟨s, hs⟩ : ∃ s, s = l[k] := ⟨_, rfl⟩
      rw [← hs] at f0 f1
      have HS := hid (show bytesSum (l.take (k + 1)) = IntKind.i64.wrap (bytesSum (l.take k) + (s.bytes.length : Int)) by
        rw [List.take_succ_eq_append_getElem hlt, ← hs]
        unfold bytesSum
        rw [List.foldl_append]
        rfl)
      obtain ⟨n0, hn0⟩ : ∃ n0, n0 = bytesSum (l.take k) := ⟨_, rfl⟩
      rw [← hn0] at HS ⊢
      clear hs hn0 hh
      go_wp2_with fail
      refine ⟨⟨k + 1, by omega, rfl, by rw [HS.out, IntKind.wrap_i64]; unfold wrap64; rfl, ?_⟩, ?_⟩
      · exact HK.out.alloc _
      · show l.length - ((k : Int) + 1).toNat < l.length - (k : Int).toNat
        omega
    · have : k = l.length := by omega
      subst this
      go_wp2_with fail
      go_ret
      rw [List.take_length]
      exact ⟨rfl, Held.lshut HK.out⟩
end
end Go.Proofs.YtdbhccehbjhbpaaGreatDoor
