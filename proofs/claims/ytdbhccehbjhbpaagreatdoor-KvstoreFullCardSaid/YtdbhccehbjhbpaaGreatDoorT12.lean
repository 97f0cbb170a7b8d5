/- seglog: Sync, Read over Held. -/
import Derived.Test.YtdbhccehbjhbpaaGreatDoorT11
import Derived.Deep.RegionHeld3
namespace Go.Proofs.YtdbhccehbjhbpaaGreatDoor
open Go.RowKit
open Slog (Seg recsOf nameB Lg)
open Disk (Dk)

/-- a log over its disk. -/
def rBoth (q p : Nat) (l : List Seg) (next : Nat) (d : Dk) : List Res := [rLog q p l next, rDisk p d]

theorem Held.cells_mod {w0 w w1 : World} {B : List Res} (h : Held w0 w B) (m : Mod (fun _ => False) w w1) : Held w0 w1 B := h.step m

section
variable {w0 w : World} {B : List Res} {q p next : Nat} {l : List Seg} {d : Dk}
theorem segs_seen {g n sc : Nat} {gr : Value} {R : Res} (g1 : Held w0 w (R :: rBlk q 130 #[.pointer (some ⟨p, 0, none⟩), .slice (some ⟨g, 0, none⟩) n sc, gr, .int .i64 next] :: rRows 2 134 (.slice (some ⟨g, 0, none⟩) n sc) (l.map segRow) :: B)) {j : Nat} (hj : j < l.length) :
    w.cell? ⟨q, 0, none⟩ = some (.pointer (some ⟨p, 0, none⟩)) ∧ w.cell? ⟨q, 1, none⟩ = some (.slice (some ⟨g, 0, none⟩) n sc) ∧ w.cell? ⟨g, j * 2, none⟩ = some (.int .i64 l[j].1) := by
  obtain ⟨g', c', hv, -, f0, -⟩ := g1.pull2.seg_at hj
  injection hv with hv1 hv2 hv3
  injection hv1 with hv1
  injection hv1 with hv1
  subst hv1
  exact ⟨g1.pull1.blk0.cell rfl, g1.pull1.blk0.cell rfl, f0⟩
set_option maxRecDepth 100000 in
set_option maxHeartbeats 1000000 in
theorem lsync_last (h : Held w0 w (rLog q p l next :: rDisk p d :: B)) (hok : d.Ok) (hpl : d.pending.length ≤ 1000000) {ls : List Seg} {s : Seg} (hl : l = ls ++ [s]) {nm : Nat} (hnm : NameOk w0 nm) (hs : s.1 < nm) :
    Calls Tryz.prog 58 #[.pointer (some ⟨q, 0, none⟩)] w fun e w' => e = .returned (.int .i64 (d.sync (nameB s.1)).2) ∧ Held w0 w' (rLog q p l next :: rDisk p (d.sync (nameB s.1)).1 :: B) := by
  have hj : ls.length < l.length := by rw [hl]; simp
  have hsm := h.lseen
  obtain ⟨_, sc0, _, _, q1, q2, -⟩ := hsm
  obtain ⟨gs, gr, h1⟩ := h.lopen
  obtain ⟨g, sc, rfl, h2, f0, -⟩ := h1.pull1.seg_at hj
  have hlj : l[ls.length] = s := by subst hl; simp
  rw [hlj] at f0
  have hb := h1.blk0
  have c0 : w.cell? ⟨q, 0, none⟩ = some (.pointer (some ⟨p, 0, none⟩)) := hb.cell rfl
  have c1 : w.cell? ⟨q, 1, none⟩ = some (.slice (some ⟨g, 0, none⟩) l.length sc) := hb.cell rfl
  have HM := hid (lmade_any w q p c0)
  have HN := hid (hnm s.1 hs)
  have HH := hid h1.pull3
  have HS := hid (fun w1 (g1 : Held w0 w1 (rDisk p d :: rBlk q 130 #[.pointer (some ⟨p, 0, none⟩), .slice (some ⟨g, 0, none⟩) l.length sc, gr, .int .i64 next] :: rRows 2 134 (.slice (some ⟨g, 0, none⟩) l.length sc) (l.map segRow) :: rRecs gr (recsOf l) :: B)) => sync_held g1 hok hpl (nameB s.1) (by rw [Slog.nameB_length]; omega))
  have HF := hid (fun (d1 : Dk) w1 (g1 : Held w0 w1 (rDisk p d1 :: rBlk q 130 #[.pointer (some ⟨p, 0, none⟩), .slice (some ⟨g, 0, none⟩) l.length sc, gr, .int .i64 next] :: rRows 2 134 (.slice (some ⟨g, 0, none⟩) l.length sc) (l.map segRow) :: rRecs gr (recsOf l) :: B)) => segs_seen g1 hj)
  rw [hlj] at HF
  obtain ⟨m, hm⟩ : ∃ m, m = ls.length := ⟨_, rfl⟩
  have hll : l.length = m + 1 := by rw [hl, hm]; simp
  rw [← hm] at f0 HF
  have HL := hid hl
  rw [hll] at c1 h2 HF HH HS
  rw [hll] at q1
  have hm63 : m + 1 ≤ 9223372036854775807 := by omega
  clear h h1 hb hlj hj hl hok hpl hm q1 q2
  have k0 : (0 : Int) ≤ (m : Int) := by omega
  have k1 : (m : Int) < (m : Int) + 1 := by omega
  have k2 : IntKind.i64.wrap (m : Int) = (m : Int) := by rw [IntKind.wrap_i64]; omega
  have k3 : IntKind.i64.wrap ((m : Int) + 1 - 1) = (m : Int) := by rw [IntKind.wrap_i64]; omega
  go_enter Tryz.func58, Tryz.ntmps58
  go_wp2_with (first | (go_at_call 69; refine HM.out.mono ?_; rintro e w' ⟨rfl, rfl⟩))
  go_region_held3 (fun w' => w'.cell? ⟨q, 0, none⟩ = some (.pointer (some ⟨p, 0, none⟩)) ∧ w'.cell? ⟨q, 1, none⟩ = some (.slice (some ⟨g, 0, none⟩) (m + 1) sc) ∧ w'.cell? ⟨g, m * 2, none⟩ = some (.int .i64 s.1))
    (first | exact ⟨c0, c1, f0⟩ | exact ⟨d0, d1, d2⟩ | exact ⟨e0, e1, e2⟩)
    (first
      | (go_at_call 72; refine (HN.out _ HH.out.drew.mod).mono ?_; rintro e w1 ⟨rfl, m1⟩; have g1 := HH.out.drew.step m1; obtain ⟨d0, d1, d2⟩ := HF.out _ _ g1; have G1 := hid g1; clear g1 m1)
      | (go_at_call 71; refine (HS.out _ G1.out).mono ?_; rintro e w2 ⟨rfl, g2⟩; obtain ⟨e0, e1, e2⟩ := HF.out _ _ g2; have G2 := hid g2; clear g2))
  all_goals
    go_wp2_with fail
    go_ret
    exact ⟨rfl, Held.lshut (gs := .slice (some ⟨g, 0, none⟩) (m + 1) sc) G2.out.push3⟩
theorem lsync_none (h : Held w0 w (rLog q p [] next :: B)) :
    Calls Tryz.prog 58 #[.pointer (some ⟨q, 0, none⟩)] w fun e w' => e = .returned (.int .i64 0) ∧ Held w0 w' (rLog q p [] next :: B) := by
  obtain ⟨sA, sc, rA, rc, h2, h3, h4, h5, c0, c1, c2, c3⟩ := h.lseen
  have HM := hid (lmade_any w q p c0)
  have HH := hid h
  clear h
  go_enter Tryz.func58, Tryz.ntmps58
  go_wp2_with (first | (go_at_call 69; refine HM.out.mono ?_; rintro e w' ⟨rfl, rfl⟩))
  go_ret
  exact ⟨rfl, HH.out⟩

/-- what is read from a number on. -/
def readFrom (first : Nat) (rs : List (List UInt8)) (from_ : Int) : List (List UInt8) := rs.drop (from_ - (first : Int)).toNat
theorem readFrom_yes {f k : Nat} {rs : List (List UInt8)} {from_ : Int} (hk : k < rs.length) (h : from_ ≤ (f : Int) + (k : Int)) : readFrom f (rs.take (k + 1)) from_ = readFrom f (rs.take k) from_ ++ [rs[k]] := by
  unfold readFrom
  rw [List.take_succ_eq_append_getElem hk, List.drop_append_of_le_length (by rw [List.length_take]; omega)]
theorem readFrom_no {f k : Nat} {rs : List (List UInt8)} {from_ : Int} (h : ¬ from_ ≤ (f : Int) + (k : Int)) : readFrom f (rs.take (k + 1)) from_ = readFrom f (rs.take k) from_ := by
  unfold readFrom
  rw [List.drop_eq_nil_of_le (by rw [List.length_take]; omega), List.drop_eq_nil_of_le (by rw [List.length_take]; omega)]
theorem readFrom_len (f : Nat) (rs : List (List UInt8)) (from_ : Int) : (readFrom f rs from_).length ≤ rs.length := by unfold readFrom; rw [List.length_drop]; omega

def LReadAt (w0 : World) (B : List Res) (q p next f n rc : Nat) (rA : Option Addr) (gs : Value) (l : List Seg) (from_ : Int) (out i : Value) (wr : World) : Prop :=
  ∃ k, k ≤ n ∧ i = .int .i64 (k : Nat) ∧ Held w0 wr (rRecs out (readFrom f ((recsOf l).take k) from_) :: rBlk q 130 #[.pointer (some ⟨p, 0, none⟩), gs, .slice rA n rc, .int .i64 next] :: rRows 2 134 gs (l.map segRow) :: rRecs (.slice rA n rc) (recsOf l) :: B)

set_option maxRecDepth 100000 in
set_option maxHeartbeats 2000000 in
theorem lread_held (h : Held w0 w (rLog q p l next :: B)) (hk : (recsOf l).length ≤ next) (hn : next ≤ 1000000) (hlen : ∀ r ∈ recsOf l, r.length ≤ 70368744177664) (from_ : Int) :
    Calls Tryz.prog 60 #[.pointer (some ⟨q, 0, none⟩), .int .i64 from_] w fun e w' => ∃ v, e = .returned v ∧ Held w0 w' (rRecs v (readFrom (next - (recsOf l).length) (recsOf l) from_) :: rLog q p l next :: B) := by
  obtain ⟨gs, gr, h1⟩ := h.lopen
  obtain ⟨rA, rc, rfl, hc, hm⟩ := h1.pull2.recs_form
  obtain ⟨n, hnl⟩ : ∃ n, n = (recsOf l).length := ⟨_, rfl⟩
  rw [← hnl] at h1 hk hc ⊢
  obtain ⟨f, hf⟩ : ∃ f, f = next - n := ⟨_, rfl⟩
  have hfn : f + n = next := by omega
  have c0 : w.cell? ⟨q, 0, none⟩ = some (.pointer (some ⟨p, 0, none⟩)) := h1.blk0.cell rfl
  have c2 : w.cell? ⟨q, 2, none⟩ = some (.slice rA n rc) := h1.blk0.cell rfl
  have HM := hid (lmade_any w q p c0)
  have HH := hid h1.recs_nil
  have HN := hid hnl
  have HL := hid hlen
  obtain ⟨i0, hi, hz0, hz1, hz2⟩ := info_parts Tryz.infoBytes
  have HI := hid (And.intro hi (And.intro hz0 (And.intro hz1 hz2)))
  rw [← hf]
  clear h h1 hi hz0 hz1 hz2 hnl hlen hf
  go_enter Tryz.func60, Tryz.ntmps60
  go_wp2_with (first | (go_at_call 69; refine HM.out.mono ?_; rintro e w' ⟨rfl, rfl⟩))
  go_loopw [5, 16] (fun out i wr => LReadAt w0 B q p next f n rc rA gs l from_ out i wr) (fun _ i _ => n - (intOf i).toNat)
  case atStart => exact ⟨0, Nat.zero_le _, rfl, by simpa [readFrom] using HH.out⟩
  case round =>
    obtain ⟨k, hk, rfl, hh⟩ := hrel
    obtain ⟨oA, oc, rfl, ho1, ho2⟩ := hh.recs_form
    have hol := readFrom_len f ((recsOf l).take k) from_
    rw [List.length_take, ← HN.out] at hol
    have HK := hid hh
    by_cases hlt : k < n
    · have hkl : k < (recsOf l).length := by rw [← HN.out]; exact hlt
      obtain ⟨b, off, c, u, hv, hcell, hr⟩ := hh.pull3.recs_get hkl
      injection hv with hv1 hv2 hv3
      subst hv1 hv3
      have d0 : wr.cell? ⟨q, 0, none⟩ = some (.pointer (some ⟨p, 0, none⟩)) := hh.pull1.blk0.cell rfl
      have d2 : wr.cell? ⟨q, 2, none⟩ = some (.slice (some ⟨b, off, none⟩) n rc) := hh.pull1.blk0.cell rfl
      have d3 : wr.cell? ⟨q, 3, none⟩ = some (.int .i64 next) := hh.pull1.blk0.cell rfl
      have HFI := hid (lfirst_any wr q p next n rc (some ⟨b, off, none⟩) d0 d2 d3 (by omega) (by omega))
      rw [show next - n = f by omega] at HFI
      have HR := hid hr
      have HRL := hid (HL.out _ (List.getElem_mem hkl))
      have hwr : IntKind.i64.wrap ((f : Int) + (k : Int)) = (f : Int) + (k : Int) := by rw [IntKind.wrap_i64]; omega
      clear hr hh d0 d2 d3 hv2
      by_cases hge : from_ ≤ (f : Int) + (k : Int)
      · have HY := hid (readFrom_yes hkl hge)
        generalize (recsOf l)[k] = r at *
        obtain ⟨uA, uc, rfl, hu1, hu2, -⟩ := HR.out
        rw [bytesV_length] at hu1
        go_wp2_with (first
          | (go_at_call 62; refine HFI.out.mono ?_; rintro e w2 ⟨rfl, jj, rfl⟩))
        refine (clone_held (HK.out.drewN jj) (fun _ => True) _ r (HR.out.drewN jj) HRL.out).mono ?_
        rintro e w3 ⟨v1, rfl, g3⟩
        obtain ⟨A1, c1', rfl, -, -⟩ := Held.form (l1 := []) g3
        obtain ⟨bvs, hbl, g4⟩ := g3.pull1.recs_open
        have HG := hid (show Held w0 w3 (rOwn 87 _ bvs :: rBig bytesLoc (bvs.zip _) :: rBytes (.slice A1 r.length c1') r :: _) from g4)
        have HBL := hid hbl
        clear g3 g4 hbl
        generalize readFrom f ((recsOf l).take k) from_ = os at *
        go_wp2_with (at_builtin; refine wpList_append_held [] _ rfl _ _ 104 rfl 87 i0 (.slice none 0 0) 24 Tryz.underlying104 HI.out.1 HI.out.2.1 HI.out.2.2.1 HI.out.2.2.2 rfl (.slice oA os.length oc) bvs rfl (HG.out.alloc _) _ (.slice (some ⟨w3.heap.size, 0, none⟩) 1 1) [.slice A1 r.length c1'] rfl (own_built 87 w3 [.slice A1 r.length c1'] (by simp [maxLen])).rd (by simp [Value.oneCell']) ?c1 ?c2 ?c3)
        case c1 => rw [HBL.out]; simp; omega
        case c2 => rw [HBL.out]; unfold maxLen; simp; omega
        case c3 =>
          intro A7 c7 w5 q1 q2 g6
          have g7 : Held w0 w5 (rRecs (.slice A7 (bvs.length + 1) c7) (os ++ [r]) :: rBlk q 130 _ :: _) := Held.recs_snoc HBL.out (by simpa using g6)
          have HG7 := hid g7
          clear g6 g7
          go_wp2_with fail
          refine ⟨⟨k + 1, by omega, rfl, ?_⟩, ?_⟩
          · rw [HY.out]
            exact HG7.out
          · show n - ((k : Int) + 1).toNat < n - (k : Int).toNat
            omega
      · have HNO := hid (readFrom_no (rs := recsOf l) hge)
        go_wp2_with (first
          | (go_at_call 62; refine HFI.out.mono ?_; rintro e w2 ⟨rfl, jj, rfl⟩))
        refine ⟨⟨k + 1, by omega, rfl, ?_⟩, ?_⟩
        · rw [HNO.out]
          exact HK.out.drewN _
        · show n - ((k : Int) + 1).toNat < n - (k : Int).toNat
          omega
    · have : k = n := by omega
      subst this
      have hL := HK.out
      rw [List.take_of_length_le (by rw [← HN.out]; exact Nat.le_refl _)] at hL
      go_wp2_with fail
      go_ret
      refine ⟨_, rfl, ?_⟩
      show Held w0 wr (rRecs (.slice oA (readFrom f ((recsOf l).take k) from_).length oc) _ :: _)
      rw [List.take_of_length_le (by rw [← HN.out]; exact Nat.le_refl _)]
      exact (Held.lshut (gs := gs) hL.push3).pull1
end
end Go.Proofs.YtdbhccehbjhbpaaGreatDoor
