/- kvstore: a law. (Several texts in one file, by mz.py.) -/
import Derived.Test.YtdbhccehbjhbpaaGreatDoorT8
import Derived.Test.YtdbhccehbjhbpaaGreatDoorM3
import Derived.Test.YtdbhccehbjhbpaaGreatDoorM5
import Derived.BigQuiet
import Derived.Deep.RegionHeld3

/- seglog: rows of records in memory; read. -/
namespace Go.Proofs.YtdbhccehbjhbpaaGreatDoor
open Go.RowKit
open Slog (framed framesOf unframe numB Small)

/-- a slice of records. -/
def rRecs (v : Value) (rs : List (List UInt8)) : Res := rSome (fun bvs : List Value => bvs.length = rs.length) fun bvs => [rOwn 87 v bvs, rBig bytesLoc (bvs.zip rs)]
theorem Tryz.infoBytes : (Tryz.prog.info? 87).map (fun i => (i.zero, i.size, i.bytes)) = some (some (.slice none 0 0), 1, 24) := by kernel_rfl

section
variable {w0 w : World} {B : List Res} {v : Value} {rs : List (List UInt8)}
theorem Held.recs_open (h : Held w0 w (rRecs v rs :: B)) : ∃ bvs, bvs.length = rs.length ∧ Held w0 w (rOwn 87 v bvs :: rBig bytesLoc (bvs.zip rs) :: B) := by
  obtain ⟨bvs, hl, h1⟩ := Held.open_some (l1 := []) h
  exact ⟨bvs, hl, by simpa using h1⟩
theorem Held.recs_shut (bvs : List Value) (hl : bvs.length = rs.length) (h : Held w0 w (rOwn 87 v bvs :: rBig bytesLoc (bvs.zip rs) :: B)) : Held w0 w (rRecs v rs :: B) :=
  Held.close_some (l1 := []) bvs hl (by simpa using h)
theorem Held.recs_nil (h : Held w0 w B) : Held w0 w (rRecs (.slice none 0 0) [] :: B) :=
  Held.recs_shut [] rfl ((h.big_nil bytesLoc).nil_own 87)
theorem Held.recs_form (h : Held w0 w (rRecs v rs :: B)) : ∃ A c, v = .slice A rs.length c ∧ rs.length ≤ c ∧ c ≤ 9223372036854775807 := by
  obtain ⟨bvs, hl, h1⟩ := h.recs_open
  obtain ⟨A, c, hv, hc, hm, -⟩ := Held.own_rd (l1 := []) h1
  rw [hl] at hv hc
  exact ⟨A, c, hv, hc, by unfold maxLen at hm; exact hm⟩
/-- one record more. -/
theorem Held.recs_snoc {bvs : List Value} {v' : Value} {r : List UInt8} (hl : bvs.length = rs.length) (h : Held w0 w (rOwn 87 v (bvs ++ [v']) :: rBig bytesLoc (bvs.zip rs) :: rBytes v' r :: B)) : Held w0 w (rRecs v (rs ++ [r]) :: B) := by
  refine Held.recs_shut (bvs ++ [v']) (by simp [hl]) ?_
  rw [List.zip_append hl]
  exact Held.big_snoc (A := [_]) bytesLoc (x := (v', r)) h
/-- one of them is read. -/
theorem Held.recs_get (h : Held w0 w (rRecs v rs :: B)) {k : Nat} (hk : k < rs.length) : ∃ b off c u, v = .slice (some ⟨b, off, none⟩) rs.length c ∧ w.cell? ⟨b, off + k, none⟩ = some u ∧ Rd (fun _ => True) w u (bytesV rs[k]) := by
  obtain ⟨bvs, hl, h1⟩ := h.recs_open
  have hkb : k < bvs.length := by omega
  have hz : bvs.zip rs = (bvs.zip rs).take k ++ (bvs[k], rs[k]) :: (bvs.zip rs).drop (k + 1) := by
    conv => lhs; rw [← List.take_append_drop k (bvs.zip rs)]
    congr 1
    rw [List.drop_eq_getElem_cons (by simp; omega), List.getElem_zip]
  have h2 := h1.pull1
  rw [hz] at h2
  have h3 := Held.big_uncons (l1 := [_]) bytesLoc (Held.big_split (l1 := []) bytesLoc h2)
  have hr : Rd (fun _ => True) w bvs[k] (bytesV rs[k]) := Held.bytes (l1 := [_]) h3
  obtain ⟨A, c, hv, hc, hm, hA⟩ := Held.own_rd (l1 := []) h1
  obtain ⟨b, off, rfl, -, hcell⟩ := hA (by intro e; rw [e] at hkb; simp at hkb)
  exact ⟨b, off, c, bvs[k], by rw [hv, hl], hcell k _ (List.getElem?_eq_getElem hkb), hr⟩
end

theorem frames_drop {first k : Nat} {rs : List (List UInt8)} {z : List UInt8} (hk : k ≤ rs.length) : (framesOf first rs ++ z).drop (framesOf first (rs.take k)).length = framesOf (first + k) (rs.drop k) ++ z := by
  have h := Slog.framesOf_append first (rs.take k) (rs.drop k)
  rw [List.take_append_drop, List.length_take, Nat.min_eq_left hk] at h
  rw [h, List.append_assoc, List.drop_left]

set_option maxRecDepth 100000 in
theorem slice_from {S : Nat → Prop} {w : World} {A : Option Addr} {n c : Nat} {b : List UInt8} (h : Rd S w (.slice A n c) (bytesV b)) {m : Nat} (hm : m ≤ n) :
    ∃ A' c', (∀ w', (Instr.slice 87 (.slice A n c) (some (.int .i64 m)) none none).run Tryz.prog w' = .ok (.slice A' (n - m) c') w') ∧ Rd S w (.slice A' (n - m) c') (bytesV (b.drop m)) := by
  obtain ⟨i0, hi, -, hz1, -⟩ := info_parts Tryz.info5
  refine ⟨_, _, fun w' => ?_, bytesV_drop b m ▸ h.drop hm⟩
  rw [run_slice_l w' 87 A n c Tryz.underlying87 .i64 (m : Int) (by omega) (by omega)]
  have e : Tryz.prog.elem 87 = 5 := by kernel_rfl
  rw [e]
  have hs : (sizeOf 5).run Tryz.prog w' = .ok 1 w' := by simp [sizeOf, typeInfo, hi, hz1]
  rw [hs]
  simp [Result.andThen, sliced]

def ReadAt (w0 : World) (B : List Res) (v : Value) (b : List UInt8) (first : Nat) (rs : List (List UInt8)) (lv av : Value) (wr : World) : Prop :=
  ∃ k, k ≤ rs.length ∧ av = .int .i64 (framesOf first (rs.take k)).length ∧ Held w0 wr (rRecs lv (rs.take k) :: rBytes v b :: B)

set_option maxRecDepth 100000 in
set_option maxHeartbeats 2000000 in
theorem sread_held {w0 w : World} {B : List Res} {v : Value} {first : Nat} {rs : List (List UInt8)} {z : List UInt8} (h : Held w0 w (rBytes v (framesOf first rs ++ z) :: B)) (hs : Small first rs) (hz : unframe z = none) (hlen : (framesOf first rs ++ z).length ≤ 1099511627776) :
    Calls Tryz.prog 99 #[v, .int .i64 first] w fun e w' => ∃ v', e = .returned (.tuple #[v', .int .i64 (framesOf first rs).length]) ∧ Held w0 w' (rRecs v' rs :: rBytes v (framesOf first rs ++ z) :: B) := by
  obtain ⟨A, c, rfl, hc, hm⟩ := Held.form (l1 := []) h
  have HH := hid h.recs_nil
  have HS := hid (And.intro hs hz)
  have HD := hid (fun k (hk : k ≤ rs.length) => frames_drop (first := first) (z := z) hk)
  obtain ⟨b, hb⟩ : ∃ b, b = framesOf first rs ++ z := ⟨_, rfl⟩
  rw [← hb] at HH hc hlen ⊢
  rw [← hb] at HD
  have HB := hid hb
  obtain ⟨i0, hi, hz0, hz1, hz2⟩ := info_parts Tryz.infoBytes
  have HI := hid (And.intro hi (And.intro hz0 (And.intro hz1 hz2)))
  clear hb h hs hz hi hz0 hz1 hz2
  go_enter Tryz.func99, Tryz.ntmps99
  go_wp2_with fail
  go_loopw [6, 7] (fun lv av wr => ReadAt w0 B (.slice A b.length c) b first rs lv av wr) (fun _ av _ => b.length - (intOf av).toNat)
  case atStart => exact ⟨0, Nat.zero_le _, rfl, HH.out⟩
  case round =>
    obtain ⟨k, hk, rfl, hh⟩ := hrel
    have hd := HD.out k hk
    obtain ⟨m, hm⟩ : ∃ m, m = (framesOf first (rs.take k)).length := ⟨_, rfl⟩
    rw [← hm] at hd ⊢
    have hml : m ≤ b.length := by
      have h1 := Slog.framesOf_append first (rs.take k) (rs.drop k)
      rw [List.take_append_drop] at h1
      rw [HB.out, List.length_append, h1, List.length_append, ← hm]
      omega
    have HM := hid hm
    have HK := hid hh
    have HE := hid hd
    have h0 : (0 : Int) ≤ (m : Int) := by omega
    have h1 : (m : Int) ≤ (b.length : Int) := by omega
    clear hm hh hd
    obtain ⟨A6, c6, rfl, hc6, hm6⟩ := Held.recs_form HK.out
    rw [List.length_take, Nat.min_eq_left hk] at HK hc6 ⊢
    obtain ⟨A', c', hsl, hr⟩ := slice_from (Held.bytes (l1 := [_]) HK.out) hml
    have HU := hid (unframe_any _ wr _ (b.drop m) hr (by rw [List.length_drop]; omega))
    have hsz := HS.out
    have hcase : (k = rs.length ∧ unframe (b.drop m) = none) ∨ ∃ hkl : k < rs.length, unframe (b.drop m) = some (numB (first + k) ++ rs[k], rs[k].length + 8) := by
      rw [HE.out]
      rcases Nat.lt_or_ge k rs.length with hkl | hkl
      · refine .inr ⟨hkl, ?_⟩
        rw [List.drop_eq_getElem_cons hkl, Slog.framesOf_cons, List.append_assoc]
        unfold framed
        have hn : (numB (first + k) ++ rs[k]).length = rs[k].length + 1 := by rw [Slog.numB_small (by have := hsz.1.1; omega)]; simp
        have hr2 := hsz.1.2 rs[k] (List.getElem_mem hkl)
        rw [Slog.unframe_frame _ _ (by omega), hn]
      · refine .inl ⟨by omega, ?_⟩
        rw [List.drop_eq_nil_of_le (by omega)]
        exact hsz.2
    clear hr hsz
    rcases hcase with ⟨hkl, hun⟩ | ⟨hkl, hun⟩
    · have HN := hid hun
      clear hun
      go_wp2_with (first
          | (go_at_call 153; refine HU.out.mono ?_; intro e w1 hp; unfold UnPost at hp; rw [HN.out] at hp; obtain ⟨er, he, rfl, hmm⟩ := hp; have he2 : (er != 0) = true := bne_iff_ne.2 he; have HL := hid (HK.out.step hmm); clear hmm he))
      go_ret2
      have hL := HL.out
      rw [hkl, List.take_length] at hL
      refine ⟨.slice A6 rs.length c6, ?_, hL⟩
      show Ending.returned (.tuple #[.slice A6 rs.length c6, .int .i64 m]) = _
      rw [HM.out, hkl, List.take_length]
    · have hsm := HS.out.1
      have hf1 : first + k ≤ 247 := by have := hsm.1; omega
      have hf2 : rs[k].length ≤ 65535 := hsm.2 _ (List.getElem_mem hkl)
      have HN := hid (show unframe (b.drop m) = some (UInt8.ofNat (first + k) :: rs[k], rs[k].length + 8) by rw [hun, Slog.numB_small hf1]; rfl)
      have HT := hid (show rs.take (k + 1) = rs.take k ++ [rs[k]] from List.take_succ_eq_append_getElem hkl)
      have HF := hid (show (framesOf first (rs.take (k + 1))).length = m + (rs[k].length + 8) by
        rw [HT.out, Slog.framesOf_snoc, List.length_append, ← HM.out, List.length_take, Nat.min_eq_left hk, Slog.framed_length hf1])
      have HFL := hid (show m + (rs[k].length + 8) ≤ b.length by
        have h2 := Slog.framesOf_append first (rs.take (k + 1)) (rs.drop (k + 1))
        rw [List.take_append_drop] at h2
        rw [HB.out, List.length_append, h2, List.length_append, HF.out]
        omega)
      have hx : (UInt8.ofNat (first + k)).toNat = first + k := by rw [Slog.u8_ofNat]; omega
      have HX := hid hx
      clear hun hx hsm
      generalize rs[k] = r at *
      obtain ⟨x, hxe⟩ : ∃ x, x = UInt8.ofNat (first + k) := ⟨_, rfl⟩
      rw [← hxe] at HN HX
      clear hxe
      have HC := hid (fun w1 (v1 : Value) (B : List Res) (h : Held w0 w1 (rBytes v1 (x :: r) :: B)) => cfrom_held h _ v1 (x :: r) (Held.bytes (l1 := []) h) (by simp; omega))
      go_wp2_with (first
          | (go_at_call 153; refine HU.out.mono ?_; intro e w1 hp; unfold UnPost at hp; rw [HN.out] at hp; obtain ⟨v1, F1, rfl, ho, hu⟩ := hp; have HL := hid (HK.out.more (R := rBytes v1 (x :: r)) (own_bytes ho) hu); clear ho hu)
          | (go_at_call 105; refine (HC.out _ _ _ HL.out).mono ?_; rintro e w2 ⟨q, rfl, g2⟩; have G2 := hid g2; clear g2)
          | (go_at_call 154; refine (cnumber_held G2.out (by have := HX.out; omega)).mono ?_; rw [HX.out]; rintro e w3 ⟨rfl, g3⟩; have G3 := hid g3; clear g3)
          | (go_at_call 155; refine (crest_held G3.out (by omega)).mono ?_; rintro e w4 ⟨v4, rfl, g4⟩; obtain ⟨A4, c4, rfl, hc4, hm4⟩ := Held.form (l1 := []) g4; obtain ⟨bvs, hbl, g5⟩ := g4.pull2.recs_open; rw [List.length_take, Nat.min_eq_left hk] at hbl; have HBL := hid hbl; have G5 := hid g5; clear g4 g5 hbl)
          | (at_builtin; refine wpList_append_held [] _ rfl _ _ 104 rfl 87 i0 (.slice none 0 0) 24 Tryz.underlying104 HI.out.1 HI.out.2.1 HI.out.2.2.1 HI.out.2.2.2 rfl (.slice A6 k c6) bvs rfl (G5.out.alloc _) _ (.slice (some ⟨w4.heap.size, 0, none⟩) 1 1) [.slice A4 r.length c4] rfl (own_built 87 w4 [.slice A4 r.length c4] (by simp [maxLen])).rd (by simp [Value.oneCell']) ?c1 ?c2 ?c3))
      case c1 => rw [HBL.out]; simp; omega
      case c2 => rw [HBL.out]; unfold maxLen; simp; omega
      case c3 =>
        intro A7 c7 w5 q1 q2 g6
        have g7 : Held w0 w5 (rRecs (.slice A7 (bvs.length + 1) c7) (rs.take k ++ [r]) :: rBytes (.slice A b.length c) b :: B) := by
          have g8 := Held.recs_snoc (by rw [HBL.out, List.length_take, Nat.min_eq_left hk]) (by simpa using g6)
          exact g8.pull1.drop0
        have HG := hid g7
        clear g6 g7
        go_wp2_with fail
        refine ⟨⟨k + 1, by omega, ?_, HT.out ▸ HG.out⟩, ?_⟩
        · rw [HF.out]; rfl
        · show b.length - ((m : Int) + ((r.length : Int) + 8)).toNat < b.length - (m : Int).toNat
          have := HFL.out
          omega
end Go.Proofs.YtdbhccehbjhbpaaGreatDoor

/- seglog: a log in memory; made, First, Next, Segments, Bytes. -/
namespace Go.Proofs.YtdbhccehbjhbpaaGreatDoor
open Go.RowKit
open Slog (Seg recsOf nameB)
open Disk (Dk)

def segRow (s : Seg) : List Value := [.int .i64 s.1, .int .i64 s.bytes.length]
def logRes (q p : Nat) (l : List Seg) (next : Nat) (i : Value × Value) : List Res :=
  [rBlk q 130 #[.pointer (some ⟨p, 0, none⟩), i.1, i.2, .int .i64 next], rRows 2 134 i.1 (l.map segRow), rRecs i.2 (recsOf l)]
/-- a log. -/
def rLog (q p : Nat) (l : List Seg) (next : Nat) : Res := rSome (fun _ : Value × Value => True) (logRes q p l next)

section
variable {w0 w : World} {B : List Res} {q p next : Nat} {l : List Seg}
theorem Held.lopen (h : Held w0 w (rLog q p l next :: B)) : ∃ gs gr, Held w0 w (rBlk q 130 #[.pointer (some ⟨p, 0, none⟩), gs, gr, .int .i64 next] :: rRows 2 134 gs (l.map segRow) :: rRecs gr (recsOf l) :: B) := by
  obtain ⟨⟨v, u⟩, -, h1⟩ := Held.open_some (l1 := []) h
  exact ⟨v, u, by simpa [logRes] using h1⟩
theorem Held.lshut {gs gr : Value} (h : Held w0 w (rBlk q 130 #[.pointer (some ⟨p, 0, none⟩), gs, gr, .int .i64 next] :: rRows 2 134 gs (l.map segRow) :: rRecs gr (recsOf l) :: B)) : Held w0 w (rLog q p l next :: B) :=
  Held.close_some (l1 := []) (q := fun _ : Value × Value => True) (Rs' := logRes q p l next) (gs, gr) trivial (by simpa [logRes] using h)
/-- what is seen of it. -/
theorem Held.lseen (h : Held w0 w (rLog q p l next :: B)) : ∃ sA sc rA rc, l.length ≤ sc ∧ sc ≤ 9223372036854775807 ∧ (recsOf l).length ≤ rc ∧ rc ≤ 9223372036854775807 ∧
    w.cell? ⟨q, 0, none⟩ = some (.pointer (some ⟨p, 0, none⟩)) ∧ w.cell? ⟨q, 1, none⟩ = some (.slice sA l.length sc) ∧ w.cell? ⟨q, 2, none⟩ = some (.slice rA (recsOf l).length rc) ∧ w.cell? ⟨q, 3, none⟩ = some (.int .i64 next) := by
  obtain ⟨gs, gr, h1⟩ := h.lopen
  obtain ⟨sA, sc, rfl, h2, h3⟩ := Held.rows_form (l1 := [_]) h1
  obtain ⟨rA, rc, rfl, h4, h5⟩ := h1.pull2.recs_form
  have hb := h1.blk0
  rw [List.length_map] at h2 hb
  exact ⟨sA, sc, rA, rc, h2, h3, h4, h5, hb.cell rfl, hb.cell rfl, hb.cell rfl, hb.cell rfl⟩
end

/-- a row of the segments is read. -/
theorem Held.seg_at {w0 w : World} {B : List Res} {l : List Seg} {v : Value} (h : Held w0 w (rRows 2 134 v (l.map segRow) :: B)) {j : Nat} (hj : j < l.length) :
    ∃ g c, v = .slice (some ⟨g, 0, none⟩) l.length c ∧ l.length ≤ c ∧ w.cell? ⟨g, j * 2, none⟩ = some (.int .i64 l[j].1) ∧ w.cell? ⟨g, j * 2 + 1, none⟩ = some (.int .i64 l[j].bytes.length) := by
  obtain ⟨g, c, hv, hc1, -, hc⟩ := Held.row_at (j := j) (r := segRow l[j]) h (by rw [List.getElem?_map, List.getElem?_eq_getElem hj]; rfl)
  rw [List.length_map] at hv hc1
  exact ⟨g, c, hv, hc1, hc 0 _ rfl, hc 1 _ rfl⟩

theorem lmade_any (w : World) (q p : Nat) (hq : w.cell? ⟨q, 0, none⟩ = some (.pointer (some ⟨p, 0, none⟩))) :
    Calls Tryz.prog 69 #[.pointer (some ⟨q, 0, none⟩)] w fun e w' => e = .returned (.bool true) ∧ w' = w := by
  go_enter Tryz.func69, Tryz.ntmps69
  go_wp2
  go_ret
  exact ⟨rfl, rfl⟩

section
variable {w0 w : World} {B : List Res} {q p next : Nat} {l : List Seg}
set_option maxRecDepth 100000 in
theorem lfirst_any (w : World) (q p next n rc : Nat) (rA : Option Addr) (c0 : w.cell? ⟨q, 0, none⟩ = some (.pointer (some ⟨p, 0, none⟩))) (c2 : w.cell? ⟨q, 2, none⟩ = some (.slice rA n rc)) (c3 : w.cell? ⟨q, 3, none⟩ = some (.int .i64 next)) (hk : n ≤ next) (hn : next ≤ 9223372036854775807) :
    Calls Tryz.prog 62 #[.pointer (some ⟨q, 0, none⟩)] w fun e w' => e = .returned (.int .i64 ((next - n : Nat) : Int)) ∧ ∃ j, w' = w.drewN j := by
  have HM := hid (lmade_any w q p c0)
  go_enter Tryz.func62, Tryz.ntmps62
  go_wp2_with (first | (go_at_call 69; refine HM.out.mono ?_; rintro e w' ⟨rfl, rfl⟩))
  go_quiet (fail)
  go_wp2_with fail
  go_ret
  refine ⟨?_, _, rfl⟩
  show Ending.returned (.int .i64 ((next : Int) - (n : Int))) = _
  congr 2
  omega
theorem lfirst_held (h : Held w0 w (rLog q p l next :: B)) (hk : (recsOf l).length ≤ next) (hn : next ≤ 9223372036854775807) :
    Calls Tryz.prog 62 #[.pointer (some ⟨q, 0, none⟩)] w fun e w' => e = .returned (.int .i64 ((next - (recsOf l).length : Nat) : Int)) ∧ Held w0 w' (rLog q p l next :: B) := by
  obtain ⟨sA, sc, rA, rc, h2, h3, h4, h5, c0, c1, c2, c3⟩ := h.lseen
  refine (lfirst_any w q p next _ rc rA c0 c2 c3 hk hn).mono ?_
  rintro e w' ⟨rfl, j, rfl⟩
  exact ⟨rfl, h.drewN j⟩
theorem lnext_held (h : Held w0 w (rLog q p l next :: B)) :
    Calls Tryz.prog 64 #[.pointer (some ⟨q, 0, none⟩)] w fun e w' => e = .returned (.int .i64 next) ∧ Held w0 w' (rLog q p l next :: B) := by
  obtain ⟨sA, sc, rA, rc, h2, h3, h4, h5, c0, c1, c2, c3⟩ := h.lseen
  have HM := hid (lmade_any w q p c0)
  have HH := hid h
  clear h
  go_enter Tryz.func64, Tryz.ntmps64
  go_wp2_with (first | (go_at_call 69; refine HM.out.mono ?_; rintro e w' ⟨rfl, rfl⟩))
  go_ret
  exact ⟨rfl, HH.out⟩

/-- what a log's bytes come to. -/
def bytesSum (l : List Seg) : Int := l.foldl (fun n s => IntKind.i64.wrap (n + (s.bytes.length : Int))) 0
set_option maxRecDepth 100000 in
set_option maxHeartbeats 1000000 in
theorem lbytes_held (h : Held w0 w (rLog q p l next :: B)) :
    Calls Tryz.prog 56 #[.pointer (some ⟨q, 0, none⟩)] w fun e w' => e = .returned (.int .i64 (bytesSum l)) ∧ Held w0 w' (rLog q p l next :: B) := by
  obtain ⟨gs, gr, h1⟩ := h.lopen
  obtain ⟨sA, sc, rfl, h2, h3⟩ := Held.rows_form (l1 := [_]) h1
  rw [List.length_map] at h1 h2
  have hb := h1.blk0
  have c0 : w.cell? ⟨q, 0, none⟩ = some (.pointer (some ⟨p, 0, none⟩)) := hb.cell rfl
  have c1 : w.cell? ⟨q, 1, none⟩ = some (.slice sA l.length sc) := hb.cell rfl
  have HM := hid (lmade_any w q p c0)
  have HH := hid h1
  clear h h1 hb
  go_enter Tryz.func56, Tryz.ntmps56
  go_wp2_with (first | (go_at_call 69; refine HM.out.mono ?_; rintro e w' ⟨rfl, rfl⟩))
  go_loopw [3, 13] (fun n i wr => ∃ k : Nat, k ≤ l.length ∧ i = .int .i64 k ∧ n = .int .i64 (bytesSum (l.take k)) ∧ Held w0 wr (rBlk q 130 #[.pointer (some ⟨p, 0, none⟩), .slice sA l.length sc, gr, .int .i64 next] :: rRows 2 134 (.slice sA l.length sc) (l.map segRow) :: rRecs gr (recsOf l) :: B)) (fun _ i _ => l.length - (intOf i).toNat)
  case atStart => exact ⟨0, Nat.zero_le _, rfl, rfl, HH.out⟩
  case round =>
    obtain ⟨k, hk, rfl, rfl, hh⟩ := hrel
    have HK := hid hh
    by_cases hlt : k < l.length
    · obtain ⟨g, c, hv, -, f0, f1⟩ := hh.pull1.seg_at hlt
      injection hv with hv1 hv2 hv3
      subst hv1 hv3
      clear hv2
      obtain ⟨s, hs⟩ : ∃ s, s = l[k] := ⟨_, rfl⟩
      rw [← hs] at f0 f1
      have HS := hid (show bytesSum (l.take (k + 1)) = IntKind.i64.wrap (bytesSum (l.take k) + (s.bytes.length : Int)) by
        rw [List.take_succ_eq_append_getElem hlt, ← hs]
        unfold bytesSum
        rw [List.foldl_append]
        rfl)
      obtain ⟨n0, hn0⟩ : ∃ n0, n0 = bytesSum (l.take k) := ⟨_, rfl⟩
      rw [← hn0] at HS ⊢
      clear hs hn0 hh
      go_wp2_with fail
      refine ⟨⟨k + 1, by omega, rfl, by rw [HS.out, IntKind.wrap_i64]; unfold wrap64; rfl, ?_⟩, ?_⟩
      · exact HK.out.alloc _
      · show l.length - ((k : Int) + 1).toNat < l.length - (k : Int).toNat
        omega
    · have : k = l.length := by omega
      subst this
      go_wp2_with fail
      go_ret
      rw [List.take_length]
      exact ⟨rfl, Held.lshut HK.out⟩
end
end Go.Proofs.YtdbhccehbjhbpaaGreatDoor

/- copies of rows: slices.Clone of records and of segments; bytes.Clone. -/
namespace Go.Proofs.YtdbhccehbjhbpaaGreatDoor
open Go.RowKit
open Slog (Seg recsOf nameB)

theorem cell_alloc (w : World) (o : Obj) (p : Addr) (u : Value) (h : w.cell? p = some u) : (w.alloc o).cell? p = some u :=
  ((Mod.refl (fun _ => False) w).alloc o).cell h (fun h => h)

/-- append of rows of structs, from wherever they lie. -/
theorem wpList_append_rows {P : Program} {w : World} {ops : Array Oper} {rest : List Oper} {o : Oper} {a : Act} {Q : Exit → Act → World → Prop} (hgd : o.guard = none) (s x : Operand) (t : TypeId)
    (ho : o.op = .call { callee := .builtin .append, args := #[s, x], argTypes := #[t, t] })
    (k : Nat) (e : TypeId) (i : TypeInfo) (z : Value) (bytes : Nat) (ht : P.underlying t = some (.slice e)) (hi : P.info? e = some i) (hz : i.zero = some z)
    (hsize : i.size = k) (hby : i.bytes = bytes) (hzs : z.cells.size = k) (hk : 0 < k)
    (v : Value) (n : Nat) (xs : List Value) (F : List Nat) (hs : a.eval s = v) (hown : Own e k v n xs w F)
    (ad : Addr) (m c : Nat) (news : List Value) (hx : a.eval x = .slice (some ad) m c) (hl : news.length = m * k) (hcell : ∀ j u, news[j]? = some u → w.cell? (ad.add j) = some u) (h1 : ∀ u ∈ news, u.oneCell' = true)
    (hbytes : (n + m) * bytes ≤ 140737488355328) (h63 : n + m ≤ maxLen)
    (h : ∀ v' w' F', Own e k v' (n + m) (xs ++ news) w' F' → Upd w w' F F' → wpList P ops Q rest (a.put o.dst v') w') : wpList P ops Q (o :: rest) a w := by
  refine wpList_plain hgd fun _ hK => ?_
  obtain ⟨hrow, rfl⟩ := hown
  obtain ⟨v', w', hrun, h2, h3, _, h5⟩ := run_append_own_at (P := P) w 0 t o.type e i z k bytes ht hi hz hsize hby hzs hk v n xs hrow ad m c news hl hcell h1 h63 hbytes (Nat.zero_le _)
  have hu : Upd w w' v.ownBlock.toList v'.ownBlock.toList := by
    refine ⟨Mod.of_grownBy h3 (fun k hk _ => by simpa using hk), by cases v'.ownBlock <;> simp, fun b hb => ?_⟩
    rcases h5 with h5 | h5
    · rw [h5] at hb; exact .inl hb
    · rw [h5] at hb; simp at hb; exact .inr (by omega)
  unfold Oper.wp execOp
  simp only [ho, resolve, invoke, builtin, Sem.run_bind, Sem.run_pure, Result.andThen_ok, List.map_toArray, List.map_cons, List.map_nil, hs, hx, hrun]
  exact hK _ _ (h v' w' _ ⟨h2, rfl⟩ hu)

theorem Tryz.infoSeg : (Tryz.prog.info? 134).map (fun i => (i.zero, i.size, i.bytes)) = some (some (.agg #[.int .i64 0, .int .i64 0]), 2, 16) := by kernel_rfl
theorem Own.made2 (e : TypeId) (k : Nat) (w : World) : Own e k (.slice (some ⟨w.heap.size, 0, none⟩) 0 0) 0 [] (w.alloc (.cells #[] e)) [w.heap.size] :=
  ⟨World.ownsRow_made w #[] 0 (Nat.zero_le _) (Nat.zero_le _) (by simp), rfl⟩

set_option maxHeartbeats 1000000 in
theorem clone_segs (w : World) (ad : Addr) (m c : Nat) (news : List Value) (hl : news.length = m * 2) (hcell : ∀ j u, news[j]? = some u → w.cell? (ad.add j) = some u) (h1 : ∀ u ∈ news, u.oneCell' = true) (hm : m ≤ 1000000) :
    Calls Tryz.prog 112 #[.slice (some ad) m c] w fun e w' => ∃ v' F, e = .returned v' ∧ Own 134 2 v' m news w' F ∧ Upd w w' [] F := by
  obtain ⟨i0, hi, hz0, hz1, hz2⟩ := info_parts Tryz.infoSeg
  have eN := fun (w : World) (a : Option Addr) (n c : Nat) => Lib.run_eql_slice_nil (P := Tryz.prog) w 128 134 a n c 0 0 Tryz.underlying128
  have HI := hid (And.intro hi (And.intro hz0 (And.intro hz1 hz2)))
  have HC := hid (fun j u hu => (cell_alloc w (.cells #[] 134) _ _ (hcell j u hu)))
  have H1 := hid (And.intro hl (And.intro h1 hm))
  clear hi hz0 hz1 hz2 hcell h1 hl hm
  have HO := hid (Own.made2 134 2 w)
  go_enter Tryz.func112, Tryz.ntmps112
  go_wp2_with (at_builtin; refine wpList_append_rows rfl _ _ 128 rfl 2 134 i0 (.agg #[.int .i64 0, .int .i64 0]) 16 Tryz.underlying128 HI.out.1 HI.out.2.1 HI.out.2.2.1 HI.out.2.2.2 rfl (by decide) _ 0 [] _ rfl HO.out ad m c news rfl H1.out.1 HC.out H1.out.2.1 ?c1 ?c2 ?c3)
  case c1 => have := H1.out.2.2; omega
  case c2 => have := H1.out.2.2; unfold maxLen; omega
  case c3 =>
    intro v' w1 F' hown hu
    have HP := hid (And.intro hown hu)
    clear hown hu
    go_wp2
    go_ret
    obtain ⟨hown, hu⟩ := HP.out
    exact ⟨_, F', rfl, by simpa using hown, Upd.new ((Mod.refl _ w).alloc _) hu (by simp)⟩

set_option maxHeartbeats 1000000 in
theorem clone_recs (S : Nat → Prop) (w : World) (v : Value) (xs : List Value) (h : Rd S w v xs) (h1 : ∀ u ∈ xs, u.oneCell' = true) (hl : xs.length ≤ 1000000) :
    Calls Tryz.prog 111 #[v] w fun e w' => ∃ v' F, e = .returned v' ∧ Own 87 1 v' xs.length xs w' F ∧ Upd w w' [] F := by
  obtain ⟨A, c, hv, hc, hmx, hA⟩ := id h
  subst hv
  have eN := fun (w : World) (a : Option Addr) (n c : Nat) => Lib.run_eql_slice_nil (P := Tryz.prog) w 104 87 a n c 0 0 Tryz.underlying104
  cases A with
  | none =>
    have : xs = [] := by
      cases xs with
      | nil => rfl
      | cons _ _ => obtain ⟨_, _, h, _⟩ := hA (by simp); cases h
    subst this
    clear h hA
    go_enter Tryz.func111, Tryz.ntmps111
    go_wp2
    go_ret
    exact ⟨_, [], rfl, Own.nil _ _ _, Upd.refl _ (by simp)⟩
  | some ad =>
    obtain ⟨i0, hi, hz0, hz1, hz2⟩ := info_parts Tryz.infoBytes
    have HH := hid h
    have HI := hid (And.intro hi (And.intro hz0 (And.intro hz1 hz2)))
    have HL := hid (And.intro hl h1)
    clear h hA hi hz0 hz1 hz2 hl hmx h1
    go_enter Tryz.func111, Tryz.ntmps111
    have HO := hid (Own.made 87 w)
    go_wp2_with (at_builtin; refine wpList_append_rd _ rfl _ _ 104 rfl 87 i0 (.slice none 0 0) 24 Tryz.underlying104 HI.out.1 HI.out.2.1 HI.out.2.2.1 HI.out.2.2.2 rfl _ 0 [] _ rfl HO.out S (.slice (some ad) xs.length c) xs rfl (HH.out.alloc _) HL.out.2 ?c1 ?c2 ?c3)
    case c1 => have := HL.out.1; omega
    case c2 => have := HL.out.1; unfold maxLen; omega
    case c3 =>
      intro v' w1 F' hown hu
      have HP := hid (And.intro hown hu)
      clear hown hu
      go_wp2
      go_ret
      obtain ⟨hown, hu⟩ := HP.out
      refine ⟨_, F', rfl, by simpa using hown, Upd.new ((Mod.refl _ w).alloc _) hu (by simp)⟩

set_option maxHeartbeats 1000000 in
theorem bclone_bytes (S : Nat → Prop) (w : World) (v : Value) (l : List UInt8) (h : Rd S w v (bytesV l)) (hl : l.length ≤ 70368744177664) :
    Calls Tryz.prog 74 #[v] w fun e w' => ∃ v' F, e = .returned v' ∧ Own 5 1 v' l.length (bytesV l) w' F ∧ Upd w w' [] F := by
  obtain ⟨A, c, hv, hc, hmx, hA⟩ := id h
  rw [bytesV_length] at hc hv
  subst hv
  have eN := fun (w : World) (a : Option Addr) (n c : Nat) => Lib.run_eql_slice_nil (P := Tryz.prog) w 87 5 a n c 0 0 Tryz.underlying87
  cases A with
  | none =>
    have : l = [] := by
      cases l with
      | nil => rfl
      | cons _ _ => obtain ⟨_, _, h, _⟩ := hA (by simp [bytesV]); cases h
    subst this
    clear h hA
    go_enter Tryz.func74, Tryz.ntmps74
    go_wp2
    go_ret
    exact ⟨_, [], rfl, Own.nil _ _ _, Upd.refl _ (by simp)⟩
  | some ad =>
    obtain ⟨i0, hi, hz0, hz1, hz2⟩ := info_parts Tryz.info5
    have HH := hid h
    have HI := hid (And.intro hi (And.intro hz0 (And.intro hz1 hz2)))
    have HL := hid hl
    clear h hA hi hz0 hz1 hz2 hl hmx
    go_enter Tryz.func74, Tryz.ntmps74
    have HO := hid (Own.made 5 w)
    go_wp2_with (at_builtin; refine wpList_append_rd _ rfl _ _ 87 rfl 5 i0 (.int .u8 0) 1 Tryz.underlying87 HI.out.1 HI.out.2.1 HI.out.2.2.1 HI.out.2.2.2 rfl _ 0 [] _ rfl HO.out S (.slice (some ad) l.length c) (bytesV l) rfl (HH.out.alloc _) (bytesV_one l) ?c1 ?c2 ?c3)
    case c1 => have := HL.out; rw [bytesV_length]; omega
    case c2 => have := HL.out; rw [bytesV_length]; unfold maxLen; omega
    case c3 =>
      intro v' w1 F' hown hu
      have HP := hid (And.intro hown hu)
      clear hown hu
      go_wp2
      go_ret
      obtain ⟨hown, hu⟩ := HP.out
      refine ⟨_, F', rfl, by simpa [bytesV_length] using hown, Upd.new ((Mod.refl _ w).alloc _) hu (by simp)⟩
theorem bclone_held {w0 w : World} {Rs : List Res} (h : Held w0 w Rs) (S : Nat → Prop) (v : Value) (l : List UInt8) (hr : Rd S w v (bytesV l)) (hl : l.length ≤ 70368744177664) :
    Calls Tryz.prog 74 #[v] w fun e w' => ∃ v', e = .returned v' ∧ Held w0 w' (rBytes v' l :: Rs) :=
  (bclone_bytes S w v l hr hl).mono fun _ _ ⟨v', _, he, h1, h2⟩ => ⟨v', he, h.more (own_bytes h1) h2⟩
end Go.Proofs.YtdbhccehbjhbpaaGreatDoor

/- seglog: Sync, Read over Held. -/
namespace Go.Proofs.YtdbhccehbjhbpaaGreatDoor
open Go.RowKit
open Slog (Seg recsOf nameB Lg)
open Disk (Dk)

/-- a log over its disk. -/
def rBoth (q p : Nat) (l : List Seg) (next : Nat) (d : Dk) : List Res := [rLog q p l next, rDisk p d]

theorem Held.cells_mod {w0 w w1 : World} {B : List Res} (h : Held w0 w B) (m : Mod (fun _ => False) w w1) : Held w0 w1 B := h.step m

section
variable {w0 w : World} {B : List Res} {q p next : Nat} {l : List Seg} {d : Dk}
theorem segs_seen {g n sc : Nat} {gr : Value} {R : Res} (g1 : Held w0 w (R :: rBlk q 130 #[.pointer (some ⟨p, 0, none⟩), .slice (some ⟨g, 0, none⟩) n sc, gr, .int .i64 next] :: rRows 2 134 (.slice (some ⟨g, 0, none⟩) n sc) (l.map segRow) :: B)) {j : Nat} (hj : j < l.length) :
    w.cell? ⟨q, 0, none⟩ = some (.pointer (some ⟨p, 0, none⟩)) ∧ w.cell? ⟨q, 1, none⟩ = some (.slice (some ⟨g, 0, none⟩) n sc) ∧ w.cell? ⟨g, j * 2, none⟩ = some (.int .i64 l[j].1) := by
  obtain ⟨g', c', hv, -, f0, -⟩ := g1.pull2.seg_at hj
  injection hv with hv1 hv2 hv3
  injection hv1 with hv1
  injection hv1 with hv1
  subst hv1
  exact ⟨g1.pull1.blk0.cell rfl, g1.pull1.blk0.cell rfl, f0⟩
set_option maxRecDepth 100000 in
set_option maxHeartbeats 1000000 in
theorem lsync_last (h : Held w0 w (rLog q p l next :: rDisk p d :: B)) (hok : d.Ok) (hpl : d.pending.length ≤ 1000000) {ls : List Seg} {s : Seg} (hl : l = ls ++ [s]) {nm : Nat} (hnm : NameOk w0 nm) (hs : s.1 < nm) :
    Calls Tryz.prog 58 #[.pointer (some ⟨q, 0, none⟩)] w fun e w' => e = .returned (.int .i64 (d.sync (nameB s.1)).2) ∧ Held w0 w' (rLog q p l next :: rDisk p (d.sync (nameB s.1)).1 :: B) := by
  have hj : ls.length < l.length := by rw [hl]; simp
  have hsm := h.lseen
  obtain ⟨_, sc0, _, _, q1, q2, -⟩ := hsm
  obtain ⟨gs, gr, h1⟩ := h.lopen
  obtain ⟨g, sc, rfl, h2, f0, -⟩ := h1.pull1.seg_at hj
  have hlj : l[ls.length] = s := by subst hl; simp
  rw [hlj] at f0
  have hb := h1.blk0
  have c0 : w.cell? ⟨q, 0, none⟩ = some (.pointer (some ⟨p, 0, none⟩)) := hb.cell rfl
  have c1 : w.cell? ⟨q, 1, none⟩ = some (.slice (some ⟨g, 0, none⟩) l.length sc) := hb.cell rfl
  have HM := hid (lmade_any w q p c0)
  have HN := hid (hnm s.1 hs)
  have HH := hid h1.pull3
  have HS := hid (fun w1 (g1 : Held w0 w1 (rDisk p d :: rBlk q 130 #[.pointer (some ⟨p, 0, none⟩), .slice (some ⟨g, 0, none⟩) l.length sc, gr, .int .i64 next] :: rRows 2 134 (.slice (some ⟨g, 0, none⟩) l.length sc) (l.map segRow) :: rRecs gr (recsOf l) :: B)) => sync_held g1 hok hpl (nameB s.1) (by rw [Slog.nameB_length]; omega))
  have HF := hid (fun (d1 : Dk) w1 (g1 : Held w0 w1 (rDisk p d1 :: rBlk q 130 #[.pointer (some ⟨p, 0, none⟩), .slice (some ⟨g, 0, none⟩) l.length sc, gr, .int .i64 next] :: rRows 2 134 (.slice (some ⟨g, 0, none⟩) l.length sc) (l.map segRow) :: rRecs gr (recsOf l) :: B)) => segs_seen g1 hj)
  rw [hlj] at HF
  obtain ⟨m, hm⟩ : ∃ m, m = ls.length := ⟨_, rfl⟩
  have hll : l.length = m + 1 := by rw [hl, hm]; simp
  rw [← hm] at f0 HF
  have HL := hid hl
  rw [hll] at c1 h2 HF HH HS
  rw [hll] at q1
  have hm63 : m + 1 ≤ 9223372036854775807 := by omega
  clear h h1 hb hlj hj hl hok hpl hm q1 q2
  have k0 : (0 : Int) ≤ (m : Int) := by omega
  have k1 : (m : Int) < (m : Int) + 1 := by omega
  have k2 : IntKind.i64.wrap (m : Int) = (m : Int) := by rw [IntKind.wrap_i64]; omega
  have k3 : IntKind.i64.wrap ((m : Int) + 1 - 1) = (m : Int) := by rw [IntKind.wrap_i64]; omega
  go_enter Tryz.func58, Tryz.ntmps58
  go_wp2_with (first | (go_at_call 69; refine HM.out.mono ?_; rintro e w' ⟨rfl, rfl⟩))
  go_region_held3 (fun w' => w'.cell? ⟨q, 0, none⟩ = some (.pointer (some ⟨p, 0, none⟩)) ∧ w'.cell? ⟨q, 1, none⟩ = some (.slice (some ⟨g, 0, none⟩) (m + 1) sc) ∧ w'.cell? ⟨g, m * 2, none⟩ = some (.int .i64 s.1))
    (first | exact ⟨c0, c1, f0⟩ | exact ⟨d0, d1, d2⟩ | exact ⟨e0, e1, e2⟩)
    (first
      | (go_at_call 72; refine (HN.out _ HH.out.drew.mod).mono ?_; rintro e w1 ⟨rfl, m1⟩; have g1 := HH.out.drew.step m1; obtain ⟨d0, d1, d2⟩ := HF.out _ _ g1; have G1 := hid g1; clear g1 m1)
      | (go_at_call 71; refine (HS.out _ G1.out).mono ?_; rintro e w2 ⟨rfl, g2⟩; obtain ⟨e0, e1, e2⟩ := HF.out _ _ g2; have G2 := hid g2; clear g2))
  all_goals
    go_wp2_with fail
    go_ret
    exact ⟨rfl, Held.lshut (gs := .slice (some ⟨g, 0, none⟩) (m + 1) sc) G2.out.push3⟩
theorem lsync_none (h : Held w0 w (rLog q p [] next :: B)) :
    Calls Tryz.prog 58 #[.pointer (some ⟨q, 0, none⟩)] w fun e w' => e = .returned (.int .i64 0) ∧ Held w0 w' (rLog q p [] next :: B) := by
  obtain ⟨sA, sc, rA, rc, h2, h3, h4, h5, c0, c1, c2, c3⟩ := h.lseen
  have HM := hid (lmade_any w q p c0)
  have HH := hid h
  clear h
  go_enter Tryz.func58, Tryz.ntmps58
  go_wp2_with (first | (go_at_call 69; refine HM.out.mono ?_; rintro e w' ⟨rfl, rfl⟩))
  go_ret
  exact ⟨rfl, HH.out⟩

/-- what is read from a number on. -/
def readFrom (first : Nat) (rs : List (List UInt8)) (from_ : Int) : List (List UInt8) := rs.drop (from_ - (first : Int)).toNat
theorem readFrom_yes {f k : Nat} {rs : List (List UInt8)} {from_ : Int} (hk : k < rs.length) (h : from_ ≤ (f : Int) + (k : Int)) : readFrom f (rs.take (k + 1)) from_ = readFrom f (rs.take k) from_ ++ [rs[k]] := by
  unfold readFrom
  rw [List.take_succ_eq_append_getElem hk, List.drop_append_of_le_length (by rw [List.length_take]; omega)]
theorem readFrom_no {f k : Nat} {rs : List (List UInt8)} {from_ : Int} (h : ¬ from_ ≤ (f : Int) + (k : Int)) : readFrom f (rs.take (k + 1)) from_ = readFrom f (rs.take k) from_ := by
  unfold readFrom
  rw [List.drop_eq_nil_of_le (by rw [List.length_take]; omega), List.drop_eq_nil_of_le (by rw [List.length_take]; omega)]
theorem readFrom_len (f : Nat) (rs : List (List UInt8)) (from_ : Int) : (readFrom f rs from_).length ≤ rs.length := by unfold readFrom; rw [List.length_drop]; omega

def LReadAt (w0 : World) (B : List Res) (q p next f n rc : Nat) (rA : Option Addr) (gs : Value) (l : List Seg) (from_ : Int) (out i : Value) (wr : World) : Prop :=
  ∃ k, k ≤ n ∧ i = .int .i64 (k : Nat) ∧ Held w0 wr (rRecs out (readFrom f ((recsOf l).take k) from_) :: rBlk q 130 #[.pointer (some ⟨p, 0, none⟩), gs, .slice rA n rc, .int .i64 next] :: rRows 2 134 gs (l.map segRow) :: rRecs (.slice rA n rc) (recsOf l) :: B)

set_option maxRecDepth 100000 in
set_option maxHeartbeats 2000000 in
theorem lread_held (h : Held w0 w (rLog q p l next :: B)) (hk : (recsOf l).length ≤ next) (hn : next ≤ 1000000) (hlen : ∀ r ∈ recsOf l, r.length ≤ 70368744177664) (from_ : Int) :
    Calls Tryz.prog 60 #[.pointer (some ⟨q, 0, none⟩), .int .i64 from_] w fun e w' => ∃ v, e = .returned v ∧ Held w0 w' (rRecs v (readFrom (next - (recsOf l).length) (recsOf l) from_) :: rLog q p l next :: B) := by
  obtain ⟨gs, gr, h1⟩ := h.lopen
  obtain ⟨rA, rc, rfl, hc, hm⟩ := h1.pull2.recs_form
  obtain ⟨n, hnl⟩ : ∃ n, n = (recsOf l).length := ⟨_, rfl⟩
  rw [← hnl] at h1 hk hc ⊢
  obtain ⟨f, hf⟩ : ∃ f, f = next - n := ⟨_, rfl⟩
  have hfn : f + n = next := by omega
  have c0 : w.cell? ⟨q, 0, none⟩ = some (.pointer (some ⟨p, 0, none⟩)) := h1.blk0.cell rfl
  have c2 : w.cell? ⟨q, 2, none⟩ = some (.slice rA n rc) := h1.blk0.cell rfl
  have HM := hid (lmade_any w q p c0)
  have HH := hid h1.recs_nil
  have HN := hid hnl
  have HL := hid hlen
  obtain ⟨i0, hi, hz0, hz1, hz2⟩ := info_parts Tryz.infoBytes
  have HI := hid (And.intro hi (And.intro hz0 (And.intro hz1 hz2)))
  rw [← hf]
  clear h h1 hi hz0 hz1 hz2 hnl hlen hf
  go_enter Tryz.func60, Tryz.ntmps60
  go_wp2_with (first | (go_at_call 69; refine HM.out.mono ?_; rintro e w' ⟨rfl, rfl⟩))
  go_loopw [5, 16] (fun out i wr => LReadAt w0 B q p next f n rc rA gs l from_ out i wr) (fun _ i _ => n - (intOf i).toNat)
  case atStart => exact ⟨0, Nat.zero_le _, rfl, by simpa [readFrom] using HH.out⟩
  case round =>
    obtain ⟨k, hk, rfl, hh⟩ := hrel
    obtain ⟨oA, oc, rfl, ho1, ho2⟩ := hh.recs_form
    have hol := readFrom_len f ((recsOf l).take k) from_
    rw [List.length_take, ← HN.out] at hol
    have HK := hid hh
    by_cases hlt : k < n
    · have hkl : k < (recsOf l).length := by rw [← HN.out]; exact hlt
      obtain ⟨b, off, c, u, hv, hcell, hr⟩ := hh.pull3.recs_get hkl
      injection hv with hv1 hv2 hv3
      subst hv1 hv3
      have d0 : wr.cell? ⟨q, 0, none⟩ = some (.pointer (some ⟨p, 0, none⟩)) := hh.pull1.blk0.cell rfl
      have d2 : wr.cell? ⟨q, 2, none⟩ = some (.slice (some ⟨b, off, none⟩) n rc) := hh.pull1.blk0.cell rfl
      have d3 : wr.cell? ⟨q, 3, none⟩ = some (.int .i64 next) := hh.pull1.blk0.cell rfl
      have HFI := hid (lfirst_any wr q p next n rc (some ⟨b, off, none⟩) d0 d2 d3 (by omega) (by omega))
      rw [show next - n = f by omega] at HFI
      have HR := hid hr
      have HRL := hid (HL.out _ (List.getElem_mem hkl))
      have hwr : IntKind.i64.wrap ((f : Int) + (k : Int)) = (f : Int) + (k : Int) := by rw [IntKind.wrap_i64]; omega
      clear hr hh d0 d2 d3 hv2
      by_cases hge : from_ ≤ (f : Int) + (k : Int)
      · have HY := hid (readFrom_yes hkl hge)
        generalize (recsOf l)[k] = r at *
        obtain ⟨uA, uc, rfl, hu1, hu2, -⟩ := HR.out
        rw [bytesV_length] at hu1
        go_wp2_with (first
          | (go_at_call 62; refine HFI.out.mono ?_; rintro e w2 ⟨rfl, jj, rfl⟩))
        refine (clone_held (HK.out.drewN jj) (fun _ => True) _ r (HR.out.drewN jj) HRL.out).mono ?_
        rintro e w3 ⟨v1, rfl, g3⟩
        obtain ⟨A1, c1', rfl, -, -⟩ := Held.form (l1 := []) g3
        obtain ⟨bvs, hbl, g4⟩ := g3.pull1.recs_open
        have HG := hid (show Held w0 w3 (rOwn 87 _ bvs :: rBig bytesLoc (bvs.zip _) :: rBytes (.slice A1 r.length c1') r :: _) from g4)
        have HBL := hid hbl
        clear g3 g4 hbl
        generalize readFrom f ((recsOf l).take k) from_ = os at *
        go_wp2_with (at_builtin; refine wpList_append_held [] _ rfl _ _ 104 rfl 87 i0 (.slice none 0 0) 24 Tryz.underlying104 HI.out.1 HI.out.2.1 HI.out.2.2.1 HI.out.2.2.2 rfl (.slice oA os.length oc) bvs rfl (HG.out.alloc _) _ (.slice (some ⟨w3.heap.size, 0, none⟩) 1 1) [.slice A1 r.length c1'] rfl (own_built 87 w3 [.slice A1 r.length c1'] (by simp [maxLen])).rd (by simp [Value.oneCell']) ?c1 ?c2 ?c3)
        case c1 => rw [HBL.out]; simp; omega
        case c2 => rw [HBL.out]; unfold maxLen; simp; omega
        case c3 =>
          intro A7 c7 w5 q1 q2 g6
          have g7 : Held w0 w5 (rRecs (.slice A7 (bvs.length + 1) c7) (os ++ [r]) :: rBlk q 130 _ :: _) := Held.recs_snoc HBL.out (by simpa using g6)
          have HG7 := hid g7
          clear g6 g7
          go_wp2_with fail
          refine ⟨⟨k + 1, by omega, rfl, ?_⟩, ?_⟩
          · rw [HY.out]
            exact HG7.out
          · show n - ((k : Int) + 1).toNat < n - (k : Int).toNat
            omega
      · have HNO := hid (readFrom_no (rs := recsOf l) hge)
        go_wp2_with (first
          | (go_at_call 62; refine HFI.out.mono ?_; rintro e w2 ⟨rfl, jj, rfl⟩))
        refine ⟨⟨k + 1, by omega, rfl, ?_⟩, ?_⟩
        · rw [HNO.out]
          exact HK.out.drewN _
        · show n - ((k : Int) + 1).toNat < n - (k : Int).toNat
          omega
    · have : k = n := by omega
      subst this
      have hL := HK.out
      rw [List.take_of_length_le (by rw [← HN.out]; exact Nat.le_refl _)] at hL
      go_wp2_with fail
      go_ret
      refine ⟨_, rfl, ?_⟩
      show Held w0 wr (rRecs (.slice oA (readFrom f ((recsOf l).take k) from_).length oc) _ :: _)
      rw [List.take_of_length_le (by rw [← HN.out]; exact Nat.le_refl _)]
      exact (Held.lshut (gs := gs) hL.push3).pull1
end
end Go.Proofs.YtdbhccehbjhbpaaGreatDoor
