/- disk: settle. -/
import Derived.Test.YtkednbkildkkmaaF3
import Derived.Outline
import Derived.Deep.CutBlock
import Derived.Deep.DeepCutAuto
import Derived.Deep.RegionLaw
namespace Go.Proofs.Ytkednbkildkkmaa
open Go.RowKit
open Disk

def yesOf (q : Deed → Bool) (ps : List (Deed × Value)) (k : Nat) : List (Deed × Value) := (ps.take k).filter fun x => q x.1
def notOf (q : Deed → Bool) (ps : List (Deed × Value)) (k : Nat) : List (Deed × Value) := (ps.take k).filter fun x => !q x.1
def lastOf (q : Deed → Bool) (ps : List (Deed × Value)) (k : Nat) (f : Files) : Files := ((yesOf q ps k).map (·.1)).foldl Files.does f
section
variable {q : Deed → Bool} {ps : List (Deed × Value)} {k : Nat} {f : Files}
theorem lastOf_yes (hk : k < ps.length) (h : q ps[k].1 = true) : lastOf q ps (k + 1) f = Files.does (lastOf q ps k f) ps[k].1 := by
  unfold lastOf yesOf
  rw [List.take_succ_eq_append_getElem hk, List.filter_append, List.filter_cons, h]
  simp
theorem lastOf_no (hk : k < ps.length) (h : q ps[k].1 = false) : lastOf q ps (k + 1) f = lastOf q ps k f := by
  unfold lastOf yesOf
  rw [List.take_succ_eq_append_getElem hk, List.filter_append, List.filter_cons, h]
  simp
theorem notOf_yes (hk : k < ps.length) (h : q ps[k].1 = true) : notOf q ps (k + 1) = notOf q ps k := by
  unfold notOf
  rw [List.take_succ_eq_append_getElem hk, List.filter_append, List.filter_cons, h]
  simp
theorem notOf_no (hk : k < ps.length) (h : q ps[k].1 = false) : notOf q ps (k + 1) = notOf q ps k ++ [ps[k]] := by
  unfold notOf
  rw [List.take_succ_eq_append_getElem hk, List.filter_append, List.filter_cons, h]
  simp
theorem notOf_le : (notOf q ps k).length ≤ ps.length := Nat.le_trans (List.length_filter_le _ _) (by rw [List.length_take]; omega)
theorem lastOf_le {d : Dk} (hok : d.Ok) (hps : ps.map (·.1) = d.pending) {n x : Bytes} (hx : Dict.get (lastOf q ps k d.lasting) n = some x) : x.length ≤ 16777216 := by
  have hl : ∀ a ∈ (yesOf q ps k).map (·.1), a.kind ≤ 2 ∧ may a.name = true ∧ a.at_ + a.b.length ≤ hold d.held a.name := fun a ha => hok.pend a (by
    obtain ⟨y, hy, rfl⟩ := List.mem_map.1 ha
    rw [← hps]
    exact List.mem_map.2 ⟨y, (List.take_subset _ _) (List.mem_filter.1 hy).1, rfl⟩)
  have := (dones_le hl hok.lastLe n x hx).2
  have := hok.hold_room n
  have := hok.room
  omega
end
theorem may_len {n : Bytes} (h : may n = true) : n.length ≤ 24 := by
  unfold may at h
  simp at h
  exact h.2.2
theorem Disk.Dk.Ok.deed {d : Dk} (hok : d.Ok) {a : Deed} (ha : a ∈ d.pending) : a.kind ≤ 2 ∧ a.name.length ≤ 9223372036854775807 ∧ a.at_ + a.b.length ≤ 16777216 := by
  obtain ⟨h1, h2, h3⟩ := hok.pend a ha
  have := hok.hold_room a.name
  have := hok.room
  have := may_len h2
  exact ⟨h1, by omega, by omega⟩

def SettleAt (w0 : World) (B : List Res) (p : Nat) (d : Dk) (i : DiskIn) (ps : List (Deed × Value)) (q : Deed → Bool) (k : Nat) (vr : Value) (w : World) : Prop :=
  Held w0 w (rBlk p 52 (diskCells d i) :: rBig bytesLoc (ps.map bOf) :: rRows 4 72 i.vp (ps.map rowOf) :: rRows 4 72 vr ((notOf q ps k).map rowOf) :: rFiles i.bl (lastOf q ps k d.lasting) :: rFiles i.bs d.seen :: rHeld i.bh d.held :: B)
theorem Held.rows_nil {w0 w : World} {B : List Res} (h : Held w0 w B) (k : Nat) (e : TypeId) : Held w0 w (rRows k e (.slice none 0 0) [] :: B) :=
  h.more (F := []) ⟨by simp, Own.nil _ _ _⟩ (Upd.refl _ (by simp))
theorem settle_start {w0 w : World} {B : List Res} {p : Nat} {d : Dk} (h : Held w0 w (rDisk p d :: B)) (q : Deed → Bool) :
    ∃ bs bl bh vA vc ps, ps.map (·.1) = d.pending ∧ ps.length ≤ vc ∧ vc ≤ 9223372036854775807 ∧ SettleAt w0 B p d ⟨bs, bl, bh, .slice vA ps.length vc⟩ ps q 0 (.slice none 0 0) w := by
  obtain ⟨⟨bs, bl, bh, vp⟩, h1⟩ := h.dopen
  obtain ⟨ps, hps, h2⟩ := Held.acts_open h1.pull3
  obtain ⟨vA, vc, hv, q1, q2⟩ := Held.rows_form (l1 := []) h2
  rw [List.length_map] at hv q1
  simp only at hv
  subst hv
  refine ⟨bs, bl, bh, vA, vc, ps, hps, q1, q2, ?_⟩
  have h3 := (h2.rows_nil 4 72)
  -- nil, rows, bytes, blk, seen, lasting, held
  have h4 := Held.pull2 (Held.pull1 h3)
  -- bytes, rows, nil, blk, seen, lasting, held
  have h5 := Held.pull3 h4
  -- blk, bytes, rows, nil, seen, lasting, held
  have h6 := Held.pull5 h5
  -- lasting, blk, bytes, rows, nil, seen, held
  exact Held.push4 h6
theorem settle_end {w0 w : World} {B : List Res} {p : Nat} {d : Dk} {i : DiskIn} {ps : List (Deed × Value)} {q : Deed → Bool} {vr : Value} {k : Nat} (hk : k = ps.length) (hps : ps.map (·.1) = d.pending) (h : SettleAt w0 B p d i ps q k vr w) :
    Held w0 (w.setCell ⟨p, 3, none⟩ vr) (rDisk p (d.settle q) :: B) := by
  subst hk
  have h1 := Held.store (l1 := []) h 3 vr
  have h2 := Held.big_sub bytesLoc (m := (notOf q ps ps.length).map bOf) (l1 := [_]) ((List.filter_sublist.trans (List.take_sublist _ _)).map bOf) h1
  have h3 := Held.drop0 (Held.pull2 h2)
  have h4 : Held w0 (w.setCell ⟨p, 3, none⟩ vr) (rRows 4 72 vr ((notOf q ps ps.length).map rowOf) :: rBig bytesLoc ((notOf q ps ps.length).map bOf) :: rBlk p 52 (diskCells (d.settle q) { i with vp := vr }) :: rFiles i.bl (d.settle q).lasting :: rFiles i.bs (d.settle q).seen :: rHeld i.bh (d.settle q).held :: B) := by
    have e1 : (diskCells d i).setIfInBounds 3 vr = diskCells (d.settle q) { i with vp := vr } := by simp [diskCells, Dk.settle]
    have e2 : lastOf q ps ps.length d.lasting = (d.settle q).lasting := by
      unfold lastOf yesOf
      rw [List.take_length]
      show _ = (d.pending.filter q).foldl Files.does d.lasting
      rw [← hps, List.filter_map]
      rfl
    rw [e1, e2] at h3
    exact (Held.pull2 h3).perm (.cons _ (.swap _ _ _))
  have h5 := Held.acts_shut h4
  have e3 : (notOf q ps ps.length).map (·.1) = (d.settle q).pending := by
    unfold notOf
    rw [List.take_length]
    show _ = d.pending.filter fun a => !q a
    rw [← hps, List.filter_map]
    rfl
  rw [e3] at h5
  have h6 := Held.dshut (d := d.settle q) { i with vp := vr } (B := B) (w0 := w0) (w := w.setCell ⟨p, 3, none⟩ vr) (p := p) (by
    -- acts, blk, lasting, seen, held
    have h7 := Held.push3 h5
    -- blk, lasting, seen, acts, held
    exact h7.perm (.cons _ (.swap _ _ _)))
  exact h6
theorem settle_cells {w0 w : World} {B : List Res} {p : Nat} {d : Dk} {i : DiskIn} {ps : List (Deed × Value)} {q : Deed → Bool} {k : Nat} {vr : Value} (h : SettleAt w0 B p d i ps q k vr w) : DiskSeen p d w i ∧ ∀ j, w.frozen? ⟨p, j, none⟩ = false :=
  ⟨(Held.blk0 h).disk, fun j => (Held.blk0 h).frozen j⟩
/-- what a round reads of the act that is next. -/
theorem settle_row {w0 w : World} {B : List Res} {p : Nat} {d : Dk} {bs bl bh vc : Nat} {vA : Option Addr} {ps : List (Deed × Value)} {q : Deed → Bool} {k : Nat} {vr : Value} (h : SettleAt w0 B p d ⟨bs, bl, bh, .slice vA ps.length vc⟩ ps q k vr w) (hk : k < ps.length) :
    ∃ g bA bc, vA = some ⟨g, 0, none⟩ ∧ ps[k].2 = .slice bA ps[k].1.b.length bc ∧ ps[k].1.b.length ≤ bc ∧ bc ≤ 9223372036854775807 ∧ w.cell? ⟨g, k * 4, none⟩ = some (.int .i64 ps[k].1.kind) ∧ w.cell? ⟨g, k * 4 + 1, none⟩ = some (sv ps[k].1.name) ∧
      w.cell? ⟨g, k * 4 + 2, none⟩ = some (.int .i64 ps[k].1.at_) ∧ w.cell? ⟨g, k * 4 + 3, none⟩ = some (.slice bA ps[k].1.b.length bc) := by
  have hj : (ps.map rowOf)[k]? = some (rowOf ps[k]) := by rw [List.getElem?_map, List.getElem?_eq_getElem hk]; rfl
  obtain ⟨g, c, hv, -, -, hc⟩ := Held.row_at (Held.pull2 h) hj
  injection hv with hv _ _
  obtain ⟨bA, bc, hb, q1, q2⟩ := Held.bytes_form (Held.pull1 h) (List.getElem_mem hk)
  have c0 := hc 0 _ rfl
  have c1 := hc 1 _ rfl
  have c2 := hc 2 _ rfl
  have c3 := hc 3 (.slice bA ps[k].1.b.length bc) (by rw [← hb]; rfl)
  exact ⟨g, bA, bc, hv, hb, q1, q2, c0, c1, c2, c3⟩
theorem settle_yes {w0 w : World} {B : List Res} {p ab : Nat} {t : TypeId} {cs : Array Value} {d : Dk} {i : DiskIn} {ps : List (Deed × Value)} {q : Deed → Bool} {k : Nat} {vr : Value} (hk : k < ps.length) (hq : q ps[k].1 = true)
    (h : Held w0 w ([rBlk ab t cs, rBlk p 52 (diskCells d i), rBig bytesLoc (ps.map bOf), rRows 4 72 i.vp (ps.map rowOf), rRows 4 72 vr ((notOf q ps k).map rowOf)] ++ rFiles i.bl (Files.does (lastOf q ps k d.lasting) ps[k].1) :: rFiles i.bs d.seen :: rHeld i.bh d.held :: B)) :
    SettleAt w0 B p d i ps q (k + 1) vr w := by
  unfold SettleAt
  rw [lastOf_yes hk hq, notOf_yes hk hq]
  exact Held.drop0 h
theorem settle_no {w0 w : World} {B : List Res} {p ab : Nat} {t : TypeId} {cs : Array Value} {d : Dk} {i : DiskIn} {ps : List (Deed × Value)} {q : Deed → Bool} {k : Nat} {vr : Value} (hk : k < ps.length) (hq : q ps[k].1 = false)
    (h : Held w0 w ([rBlk ab t cs, rBlk p 52 (diskCells d i), rBig bytesLoc (ps.map bOf), rRows 4 72 i.vp (ps.map rowOf)] ++ rRows 4 72 vr ((notOf q ps k).map rowOf ++ [rowOf ps[k]]) :: rFiles i.bl (lastOf q ps k d.lasting) :: rFiles i.bs d.seen :: rHeld i.bh d.held :: B)) :
    SettleAt w0 B p d i ps q (k + 1) vr w := by
  unfold SettleAt
  rw [lastOf_no hk hq, notOf_no hk hq, List.map_append]
  exact Held.drop0 h
theorem act_src {w0 : World} {B C : List Res} {p ab : Nat} {t u : TypeId} {cs ds : Array Value} {ps : List (Deed × Value)} {x y : Res} {bA : Option Addr} {bc k : Nat} (hk : k < ps.length) (hb : ps[k].2 = .slice bA ps[k].1.b.length bc) :
    Src w0 [rBlk ab t cs, rBlk p u ds, rBig bytesLoc (ps.map bOf), x, y] B (.slice bA ps[k].1.b.length bc) (bytesV ps[k].1.b) := by
  intro w' M h
  rw [← hb]
  exact Held.bytes_at (Held.pull2 h) (List.getElem_mem hk)

set_option maxRecDepth 100000 in
set_option maxHeartbeats 2000000 in
theorem settle_sync {w0 w : World} {B : List Res} {p : Nat} {d : Dk} {nb : Nat} {name : Bytes} (h : Held w0 w (rDisk p d :: rBlk nb 9 #[sv name] :: B)) (hok : d.Ok) (hpl : d.pending.length ≤ 1000000) :
    Calls Try.prog 33 #[.pointer (some ⟨p, 0, none⟩), .func (.func 34) #[] #[.pointer (some ⟨nb, 0, none⟩)]] w fun e w' => e = .returned (.tuple #[]) ∧ Held w0 w' (rDisk p (d.settle (fun a => a.name == name)) :: rBlk nb 9 #[sv name] :: B) := by
  obtain ⟨bs, bl, bh, vA, vc, ps, hps, q1, q2, h0⟩ := settle_start h (fun a => a.name == name)
  have hpsl : ps.length ≤ 1000000 := by rw [← hps] at hpl; simpa using hpl
  obtain ⟨⟨c0, c1, c2, c3, c4⟩, hfz⟩ := settle_cells h0
  have H0 := hid h0
  have HK := hid (And.intro hok hps)
  clear h h0 hok hps hpl
  go_enter Try.func33, Try.ntmps33
  go_wp2_with fail
  clear c0 c1 c2 c3 c4 hfz
  go_loopw [4, 12] (fun vr iv wr => ∃ k : Nat, k ≤ ps.length ∧ iv = .int .i64 k ∧ SettleAt w0 (rBlk nb 9 #[sv name] :: B) p d ⟨bs, bl, bh, .slice vA ps.length vc⟩ ps (fun a => a.name == name) k vr wr) (fun _ iv _ => ps.length - (intOf iv).toNat)
  case atStart => exact ⟨0, Nat.zero_le _, rfl, H0.out⟩
  case round =>
    obtain ⟨k, hk, rfl, hh⟩ := hrel
    by_cases hlt : k < ps.length
    · obtain ⟨g, bA, bc, rfl, hbv, b1, b2, d0, d1, d2, d3⟩ := settle_row hh hlt
      have hmem : ps[k].1 ∈ d.pending := by rw [← HK.out.2]; exact List.mem_map_of_mem (List.getElem_mem hlt)
      obtain ⟨e1, e2, e3⟩ := HK.out.1.deed hmem
      have HS := hid (fun (B C : List Res) (p ab : Nat) (t u : TypeId) (cs ds : Array Value) (x y : Res) => act_src (w0 := w0) (B := B) (C := C) (p := p) (ab := ab) (t := t) (u := u) (cs := cs) (ds := ds) (x := x) (y := y) hlt hbv)
      have HY := hid (fun (w : World) (t : TypeId) (cs : Array Value) (i : DiskIn) (ab : Nat) (vr : Value) hq hx => settle_yes (w0 := w0) (w := w) (B := rBlk nb 9 #[sv name] :: B) (p := p) (ab := ab) (t := t) (cs := cs) (d := d) (i := i) (ps := ps) (q := (fun a => a.name == name)) (vr := vr) hlt hq hx)
      have HN := hid (fun (w : World) (t : TypeId) (cs : Array Value) (i : DiskIn) (ab : Nat) (vr : Value) hq hx => settle_no (w0 := w0) (w := w) (B := rBlk nb 9 #[sv name] :: B) (p := p) (ab := ab) (t := t) (cs := cs) (d := d) (i := i) (ps := ps) (q := (fun a => a.name == name)) (vr := vr) hlt hq hx)
      have hrw : rowOf ps[k] = [.int .i64 ps[k].1.kind, .string ⟨ps[k].1.name.toArray⟩, .int .i64 ps[k].1.at_, .slice bA ps[k].1.b.length bc] := by unfold rowOf actRow sv; rw [hbv]
      have HW := hid hrw
      obtain ⟨a, ha⟩ : ∃ a, a = ps[k].1 := ⟨_, rfl⟩
      have HV := hid ha
      rw [← ha] at d0 d1 d2 d3 e1 e2 e3 HS HW b1
      have hg0 := (hh.block 72 #[.int .i64 a.kind, .string ⟨a.name.toArray⟩, .int .i64 a.at_, .slice bA a.b.length bc])
      have HG := hid hg0
      have HA := hid (sync1_any (wr.alloc (.cells #[.int .i64 a.kind, .string ⟨a.name.toArray⟩, .int .i64 a.at_, .slice bA a.b.length bc] 72)) a bA a.b.length bc nb name ((Held.blk (l1 := [_, _, _, _, _, _, _, _]) hg0).cell rfl))
      unfold sv at d1 HA
      have hle := notOf_le (q := (fun a => a.name == name)) (ps := ps) (k := k)
      have hfs := fun (n x : Bytes) hx => lastOf_le (q := (fun a => a.name == name)) (ps := ps) (k := k) (n := n) (x := x) HK.out.1 HK.out.2 hx
      have HL := hid hfs
      obtain ⟨rA, rc, hvr, r1, r2⟩ := Held.rows_form (l1 := [_, _, _]) hh
      rw [List.length_map] at hvr r1
      clear hh hmem ha hrw hbv hg0 hfs
      subst hvr
      generalize hlr : (notOf (fun a => a.name == name) ps k).length = lr at *
      have HLR := hid hlr
      clear hlr
      go_wp2_with fail
      refine HA.out.mono ?_
      rintro e w1 ⟨rfl, hm⟩
      have g1 := HG.out.step hm
      clear hm HG HA d0 d1 d2 d3
      have c2 : w1.cell? ⟨p, 2, none⟩ = some (.map (some bl)) := (Held.blk (l1 := [_]) g1).cell rfl
      obtain ⟨f0, f1, f2, f3⟩ : w1.cell? ⟨wr.heap.size, 0, none⟩ = some (.int .i64 a.kind) ∧ w1.cell? ⟨wr.heap.size, 1, none⟩ = some (.string ⟨a.name.toArray⟩) ∧ w1.cell? ⟨wr.heap.size, 2, none⟩ = some (.int .i64 a.at_) ∧ w1.cell? ⟨wr.heap.size, 3, none⟩ = some (.slice bA a.b.length bc) := ⟨(Held.blk0 g1).cell rfl, (Held.blk0 g1).cell rfl, (Held.blk0 g1).cell rfl, (Held.blk0 g1).cell rfl⟩
      generalize wr.heap.size = ab at *
      have G1 := hid g1
      cases hqq : (a.name == name) with
      | true =>
        have HQ := hid (show (fun a : Deed => a.name == name) ps[k].1 = true by show (ps[k].1.name == name) = true; rw [← HV.out]; exact hqq)
        have HC := hid (fdoes_held (A := [rBlk ab 72 #[.int .i64 a.kind, .string ⟨a.name.toArray⟩, .int .i64 a.at_, .slice bA a.b.length bc], rBlk p 52 _, rBig bytesLoc _, rRows 4 72 _ _, rRows 4 72 _ _]) (G1.out.drew) a bA bc (HS.out _ [] _ _ _ _ _ _ _ _) e2 e1 (by omega) (fun x hx => by have := HL.out _ _ hx; omega))
        unfold deedV sv at HC
        clear g1
        go_wp2_with fail
        go_region_held3 (fun w' => w'.cell? ⟨p, 2, none⟩ = some (.map (some bl)) ∧ w'.cell? ⟨ab, 0, none⟩ = some (.int .i64 a.kind) ∧ w'.cell? ⟨ab, 1, none⟩ = some (.string ⟨a.name.toArray⟩) ∧ w'.cell? ⟨ab, 2, none⟩ = some (.int .i64 a.at_) ∧ w'.cell? ⟨ab, 3, none⟩ = some (.slice bA a.b.length bc))
          (first | exact ⟨c2, f0, f1, f2, f3⟩ | exact ⟨c2', f0', f1', f2', f3'⟩)
          (first
            | (go_at_call 40; refine HC.out.mono ?_; rintro e w2 ⟨rfl, g2⟩; have c2' : w2.cell? ⟨p, 2, none⟩ = some (.map (some bl)) := (Held.blk (l1 := [_]) g2).cell rfl; obtain ⟨f0', f1', f2', f3'⟩ : w2.cell? ⟨ab, 0, none⟩ = some (.int .i64 a.kind) ∧ w2.cell? ⟨ab, 1, none⟩ = some (.string ⟨a.name.toArray⟩) ∧ w2.cell? ⟨ab, 2, none⟩ = some (.int .i64 a.at_) ∧ w2.cell? ⟨ab, 3, none⟩ = some (.slice bA a.b.length bc) := ⟨(Held.blk0 g2).cell rfl, (Held.blk0 g2).cell rfl, (Held.blk0 g2).cell rfl, (Held.blk0 g2).cell rfl⟩; have G2 := hid g2; clear g2))
        all_goals
          go_wp2_with fail
          exact ⟨⟨k + 1, by omega, by simp, HY.out _ _ _ _ _ _ HQ.out (by rw [← HV.out]; exact G2.out)⟩, by show ps.length - ((k : Int) + 1).toNat < ps.length - (k : Int).toNat; omega⟩
      | false =>
        have HQ := hid (show (fun a : Deed => a.name == name) ps[k].1 = false by show (ps[k].1.name == name) = false; rw [← HV.out]; exact hqq)
        obtain ⟨iA, iz, is, ib, iy⟩ := info_parts Try.infoAct
        have HI := hid (And.intro iz (And.intro is (And.intro ib iy)))
        clear g1 iz is ib iy
        go_wp2_with (at_builtin; refine wpList_append_row [rBlk ab 72 #[.int .i64 a.kind, .string ⟨a.name.toArray⟩, .int .i64 a.at_, .slice bA a.b.length bc], rBlk p 52 _, rBig bytesLoc _, rRows 4 72 _ _] _ rfl _ _ 49 rfl 4 72 iA _ 56 Try.underlying49 HI.out.1 HI.out.2.1 HI.out.2.2.1 HI.out.2.2.2 rfl (by decide) (.slice rA lr rc) ((notOf (fun a => a.name == name) ps k).map rowOf) lr (by rw [List.length_map]; exact HLR.out) rfl (G1.out.step ((Mod.refl _ _).alloc _)) _ _ [.int .i64 a.kind, .string ⟨a.name.toArray⟩, .int .i64 a.at_, .slice bA a.b.length bc] rfl rfl (World.news_of_block (heap_alloc_new w1 _)) (by intro u hu; simp only [List.mem_cons, List.not_mem_nil, or_false] at hu; rcases hu with rfl | rfl | rfl | rfl <;> rfl) (by omega) (by unfold maxLen; omega) ?c8)
        case c8 =>
          intro A' c' w2 p1 p2 g2
          have G2 := hid g2
          clear g2
          go_wp2_with fail
          exact ⟨⟨k + 1, by omega, by simp, HN.out _ _ _ _ _ _ HQ.out (by rw [HW.out]; exact G2.out)⟩, by show ps.length - ((k : Int) + 1).toNat < ps.length - (k : Int).toNat; omega⟩
    · obtain ⟨rA, rc, hvr, r1, r2⟩ := Held.rows_form (l1 := [_, _, _]) hh
      subst hvr
      generalize ((notOf (fun a => a.name == name) ps k).map rowOf).length = ln at *
      obtain ⟨⟨c0, c1, c2, c3, c4⟩, hfz⟩ := settle_cells hh
      have hke : k = ps.length := by omega
      have HE := hid (settle_end hke HK.out.2 hh)
      clear hh hke r1 r2
      go_wp2_with fail
      go_end0
      exact ⟨rfl, HE.out⟩

set_option maxRecDepth 100000 in
set_option maxHeartbeats 2000000 in
theorem settle_flush {w0 w : World} {B : List Res} {p : Nat} {d : Dk}  (h : Held w0 w (rDisk p d :: B)) (hok : d.Ok) (hpl : d.pending.length ≤ 1000000) :
    Calls Try.prog 33 #[.pointer (some ⟨p, 0, none⟩), .func (.func 42) #[] #[]] w fun e w' => e = .returned (.tuple #[]) ∧ Held w0 w' (rDisk p (d.settle (fun _ => true)) :: B) := by
  obtain ⟨bs, bl, bh, vA, vc, ps, hps, q1, q2, h0⟩ := settle_start h (fun _ => true)
  have hpsl : ps.length ≤ 1000000 := by rw [← hps] at hpl; simpa using hpl
  obtain ⟨⟨c0, c1, c2, c3, c4⟩, hfz⟩ := settle_cells h0
  have H0 := hid h0
  have HK := hid (And.intro hok hps)
  clear h h0 hok hps hpl
  go_enter Try.func33, Try.ntmps33
  go_wp2_with fail
  clear c0 c1 c2 c3 c4 hfz
  go_loopw [4, 12] (fun vr iv wr => ∃ k : Nat, k ≤ ps.length ∧ iv = .int .i64 k ∧ SettleAt w0 (B) p d ⟨bs, bl, bh, .slice vA ps.length vc⟩ ps (fun _ => true) k vr wr) (fun _ iv _ => ps.length - (intOf iv).toNat)
  case atStart => exact ⟨0, Nat.zero_le _, rfl, H0.out⟩
  case round =>
    obtain ⟨k, hk, rfl, hh⟩ := hrel
    by_cases hlt : k < ps.length
    · obtain ⟨g, bA, bc, rfl, hbv, b1, b2, d0, d1, d2, d3⟩ := settle_row hh hlt
      have hmem : ps[k].1 ∈ d.pending := by rw [← HK.out.2]; exact List.mem_map_of_mem (List.getElem_mem hlt)
      obtain ⟨e1, e2, e3⟩ := HK.out.1.deed hmem
      have HS := hid (fun (B C : List Res) (p ab : Nat) (t u : TypeId) (cs ds : Array Value) (x y : Res) => act_src (w0 := w0) (B := B) (C := C) (p := p) (ab := ab) (t := t) (u := u) (cs := cs) (ds := ds) (x := x) (y := y) hlt hbv)
      have HY := hid (fun (w : World) (t : TypeId) (cs : Array Value) (i : DiskIn) (ab : Nat) (vr : Value) hq hx => settle_yes (w0 := w0) (w := w) (B := B) (p := p) (ab := ab) (t := t) (cs := cs) (d := d) (i := i) (ps := ps) (q := (fun _ => true)) (vr := vr) hlt hq hx)
      have HN := hid (fun (w : World) (t : TypeId) (cs : Array Value) (i : DiskIn) (ab : Nat) (vr : Value) hq hx => settle_no (w0 := w0) (w := w) (B := B) (p := p) (ab := ab) (t := t) (cs := cs) (d := d) (i := i) (ps := ps) (q := (fun _ => true)) (vr := vr) hlt hq hx)
      have hrw : rowOf ps[k] = [.int .i64 ps[k].1.kind, .string ⟨ps[k].1.name.toArray⟩, .int .i64 ps[k].1.at_, .slice bA ps[k].1.b.length bc] := by unfold rowOf actRow sv; rw [hbv]
      have HW := hid hrw
      obtain ⟨a, ha⟩ : ∃ a, a = ps[k].1 := ⟨_, rfl⟩
      have HV := hid ha
      rw [← ha] at d0 d1 d2 d3 e1 e2 e3 HS HW b1
      have hg0 := (hh.block 72 #[.int .i64 a.kind, .string ⟨a.name.toArray⟩, .int .i64 a.at_, .slice bA a.b.length bc])
      have HG := hid hg0
      have HA := hid (flush1_any (wr.alloc (.cells #[.int .i64 a.kind, .string ⟨a.name.toArray⟩, .int .i64 a.at_, .slice bA a.b.length bc] 72)) a bA a.b.length bc)
      unfold sv at d1 HA
      have hle := notOf_le (q := (fun _ => true)) (ps := ps) (k := k)
      have hfs := fun (n x : Bytes) hx => lastOf_le (q := (fun _ => true)) (ps := ps) (k := k) (n := n) (x := x) HK.out.1 HK.out.2 hx
      have HL := hid hfs
      obtain ⟨rA, rc, hvr, r1, r2⟩ := Held.rows_form (l1 := [_, _, _]) hh
      rw [List.length_map] at hvr r1
      clear hh hmem ha hrw hbv hg0 hfs
      subst hvr
      generalize hlr : (notOf (fun _ => true) ps k).length = lr at *
      have HLR := hid hlr
      clear hlr
      go_wp2_with fail
      refine HA.out.mono ?_
      rintro e w1 ⟨rfl, hm⟩
      have g1 := HG.out.step hm
      clear hm HG HA d0 d1 d2 d3
      have c2 : w1.cell? ⟨p, 2, none⟩ = some (.map (some bl)) := (Held.blk (l1 := [_]) g1).cell rfl
      obtain ⟨f0, f1, f2, f3⟩ : w1.cell? ⟨wr.heap.size, 0, none⟩ = some (.int .i64 a.kind) ∧ w1.cell? ⟨wr.heap.size, 1, none⟩ = some (.string ⟨a.name.toArray⟩) ∧ w1.cell? ⟨wr.heap.size, 2, none⟩ = some (.int .i64 a.at_) ∧ w1.cell? ⟨wr.heap.size, 3, none⟩ = some (.slice bA a.b.length bc) := ⟨(Held.blk0 g1).cell rfl, (Held.blk0 g1).cell rfl, (Held.blk0 g1).cell rfl, (Held.blk0 g1).cell rfl⟩
      generalize wr.heap.size = ab at *
      have G1 := hid g1
      have HQ := hid (show (fun _ : Deed => true) ps[k].1 = true from rfl)
      have HC := hid (fdoes_held (A := [rBlk ab 72 #[.int .i64 a.kind, .string ⟨a.name.toArray⟩, .int .i64 a.at_, .slice bA a.b.length bc], rBlk p 52 _, rBig bytesLoc _, rRows 4 72 _ _, rRows 4 72 _ _]) (G1.out.drew) a bA bc (HS.out _ [] _ _ _ _ _ _ _ _) e2 e1 (by omega) (fun x hx => by have := HL.out _ _ hx; omega))
      unfold deedV sv at HC
      clear g1
      go_wp2_with fail
      go_region_held3 (fun w' => w'.cell? ⟨p, 2, none⟩ = some (.map (some bl)) ∧ w'.cell? ⟨ab, 0, none⟩ = some (.int .i64 a.kind) ∧ w'.cell? ⟨ab, 1, none⟩ = some (.string ⟨a.name.toArray⟩) ∧ w'.cell? ⟨ab, 2, none⟩ = some (.int .i64 a.at_) ∧ w'.cell? ⟨ab, 3, none⟩ = some (.slice bA a.b.length bc))
        (first | exact ⟨c2, f0, f1, f2, f3⟩ | exact ⟨c2', f0', f1', f2', f3'⟩)
        (first
          | (go_at_call 40; refine HC.out.mono ?_; rintro e w2 ⟨rfl, g2⟩; have c2' : w2.cell? ⟨p, 2, none⟩ = some (.map (some bl)) := (Held.blk (l1 := [_]) g2).cell rfl; obtain ⟨f0', f1', f2', f3'⟩ : w2.cell? ⟨ab, 0, none⟩ = some (.int .i64 a.kind) ∧ w2.cell? ⟨ab, 1, none⟩ = some (.string ⟨a.name.toArray⟩) ∧ w2.cell? ⟨ab, 2, none⟩ = some (.int .i64 a.at_) ∧ w2.cell? ⟨ab, 3, none⟩ = some (.slice bA a.b.length bc) := ⟨(Held.blk0 g2).cell rfl, (Held.blk0 g2).cell rfl, (Held.blk0 g2).cell rfl, (Held.blk0 g2).cell rfl⟩; have G2 := hid g2; clear g2))
      all_goals
        go_wp2_with fail
        exact ⟨⟨k + 1, by omega, by simp, HY.out _ _ _ _ _ _ HQ.out (by rw [← HV.out]; exact G2.out)⟩, by show ps.length - ((k : Int) + 1).toNat < ps.length - (k : Int).toNat; omega⟩
    · obtain ⟨rA, rc, hvr, r1, r2⟩ := Held.rows_form (l1 := [_, _, _]) hh
      subst hvr
      generalize ((notOf (fun _ => true) ps k).map rowOf).length = ln at *
      obtain ⟨⟨c0, c1, c2, c3, c4⟩, hfz⟩ := settle_cells hh
      have hke : k = ps.length := by omega
      have HE := hid (settle_end hke HK.out.2 hh)
      clear hh hke r1 r2
      go_wp2_with fail
      go_end0
      exact ⟨rfl, HE.out⟩

end Go.Proofs.Ytkednbkildkkmaa
