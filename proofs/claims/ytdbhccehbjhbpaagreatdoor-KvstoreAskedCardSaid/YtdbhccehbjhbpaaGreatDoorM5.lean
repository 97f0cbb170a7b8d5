/- disk: crash, new, clone. (Several texts in one file, by merge.py.) -/
import Derived.Test.YtdbhccehbjhbpaaGreatDoorM4
import Derived.Shelf.SlMaps.Clone
import Derived.Test.YtdbhccehbjhbpaaGreatDoorM1
import Derived.Maps.Range

/- disk: Crash. -/
namespace Go.Proofs.YtdbhccehbjhbpaaGreatDoor
open Go.RowKit
open Disk

def CrashA (w0 : World) (B : List Res) (p : Nat) (d : Dk) (i : DiskIn) (ps kp : List (Deed × Value)) (vr : Value) (f : Files) (w : World) : Prop :=
  Held w0 w (rBlk p 81 (diskCells d i) :: rBig bytesLoc (ps.map bOf) :: rRows 4 185 i.vp (ps.map rowOf) :: rRows 4 185 vr (kp.map rowOf) :: rFiles i.bl f :: rFiles i.bs d.seen :: rHeld i.bh d.held :: B)
section
variable {w0 w : World} {B : List Res} {p : Nat} {d : Dk} {i : DiskIn} {ps kp : List (Deed × Value)} {vr : Value} {f : Files}
theorem crash_start (h : Held w0 w (rDisk p d :: B)) :
    ∃ bs bl bh vA vc ps, ps.map (·.1) = d.pending ∧ ps.length ≤ vc ∧ vc ≤ 9223372036854775807 ∧ CrashA w0 B p d ⟨bs, bl, bh, .slice vA ps.length vc⟩ ps [] (.slice none 0 0) d.lasting w := by
  obtain ⟨bs, bl, bh, vA, vc, ps, h1, h2, h3, h4⟩ := settle_start h fun _ => true
  refine ⟨bs, bl, bh, vA, vc, ps, h1, h2, h3, ?_⟩
  simpa [SettleAt, CrashA, notOf, lastOf, yesOf] using h4
theorem crash_cells (h : CrashA w0 B p d i ps kp vr f w) : DiskSeen p d w i ∧ ∀ j, w.frozen? ⟨p, j, none⟩ = false := ⟨(Held.blk0 h).disk, fun j => (Held.blk0 h).frozen j⟩
theorem row4 {v : Value} {qs : List (Deed × Value)} (h : Held w0 w (rRows 4 185 v (qs.map rowOf) :: B)) {k : Nat} (hk : k < qs.length) :
    ∃ g c, v = .slice (some ⟨g, 0, none⟩) qs.length c ∧ w.cell? ⟨g, k * 4, none⟩ = some (.int .i64 qs[k].1.kind) ∧ w.cell? ⟨g, k * 4 + 1, none⟩ = some (sv qs[k].1.name) ∧
      w.cell? ⟨g, k * 4 + 2, none⟩ = some (.int .i64 qs[k].1.at_) ∧ w.cell? ⟨g, k * 4 + 3, none⟩ = some qs[k].2 := by
  have hj : (qs.map rowOf)[k]? = some (rowOf qs[k]) := by rw [List.getElem?_map, List.getElem?_eq_getElem hk]; rfl
  obtain ⟨g, c, hv, -, -, hc⟩ := h.row_at hj
  rw [List.length_map] at hv
  exact ⟨g, c, hv, hc 0 _ rfl, hc 1 _ rfl, hc 2 _ rfl, hc 3 _ rfl⟩
theorem crash_row (h : CrashA w0 B p d i ps kp vr f w) {k : Nat} (hk : k < ps.length) :
    ∃ g c bA bc, i.vp = .slice (some ⟨g, 0, none⟩) ps.length c ∧ ps[k].2 = .slice bA ps[k].1.b.length bc ∧ ps[k].1.b.length ≤ bc ∧ bc ≤ 9223372036854775807 ∧ w.cell? ⟨g, k * 4, none⟩ = some (.int .i64 ps[k].1.kind) ∧ w.cell? ⟨g, k * 4 + 1, none⟩ = some (sv ps[k].1.name) ∧
      w.cell? ⟨g, k * 4 + 2, none⟩ = some (.int .i64 ps[k].1.at_) ∧ w.cell? ⟨g, k * 4 + 3, none⟩ = some (.slice bA ps[k].1.b.length bc) := by
  obtain ⟨g, c, hv, c0, c1, c2, c3⟩ := row4 (Held.pull2 h) hk
  obtain ⟨bA, bc, hb, q1, q2⟩ := Held.bytes_form (Held.pull1 h) (List.getElem_mem hk)
  exact ⟨g, c, bA, bc, hv, hb, q1, q2, c0, c1, c2, by rw [← hb]; exact c3⟩
theorem kept_row (hko : KeptOf ps kp) (h : CrashA w0 B p d i ps kp vr f w) {k : Nat} (hk : k < kp.length) :
    ∃ g c bA bc, vr = .slice (some ⟨g, 0, none⟩) kp.length c ∧ kp[k].2 = .slice bA kp[k].1.b.length bc ∧ kp[k].1.b.length ≤ bc ∧ bc ≤ 9223372036854775807 ∧ w.cell? ⟨g, k * 4, none⟩ = some (.int .i64 kp[k].1.kind) ∧ w.cell? ⟨g, k * 4 + 1, none⟩ = some (sv kp[k].1.name) ∧
      w.cell? ⟨g, k * 4 + 2, none⟩ = some (.int .i64 kp[k].1.at_) ∧ w.cell? ⟨g, k * 4 + 3, none⟩ = some (.slice bA kp[k].1.b.length bc) := by
  obtain ⟨g, c, hv, c0, c1, c2, c3⟩ := row4 (Held.pull3 h) hk
  obtain ⟨bA, bc, hb, q1, q2, -⟩ := kept_src hko (List.getElem_mem hk) (Held.pull1 h)
  exact ⟨g, c, bA, bc, hv, hb, q1, q2, c0, c1, c2, by rw [← hb]; exact c3⟩
theorem kept_src' {w0 : World} {B : List Res} {p ab : Nat} {t u : TypeId} {cs ds : Array Value} {x y : Res} {bA : Option Addr} {bc k : Nat} (hko : KeptOf ps kp) (hk : k < kp.length) (hb : kp[k].2 = .slice bA kp[k].1.b.length bc) :
    Src w0 [rBlk ab t cs, rBlk p u ds, rBig bytesLoc (ps.map bOf), x, y] B (.slice bA kp[k].1.b.length bc) (bytesV kp[k].1.b) := by
  intro w' M h
  obtain ⟨_, _, -, -, -, hr⟩ := kept_src hko (List.getElem_mem hk) (Held.pull2 h)
  rw [← hb]
  exact hr
theorem keep_yes {ab : Nat} {t : TypeId} {cs : Array Value} {ks : List Bool} {k : Nat} (hk : k < ps.length) (hb : ks[k]? = some true)
    (h : Held w0 w ([rBlk ab t cs, rBlk p 81 (diskCells d i), rBig bytesLoc (ps.map bOf), rRows 4 185 i.vp (ps.map rowOf)] ++ rRows 4 185 vr ((keepsG (ps.take k) ks).map rowOf ++ [rowOf ps[k]]) :: rFiles i.bl f :: rFiles i.bs d.seen :: rHeld i.bh d.held :: B)) :
    CrashA w0 B p d i ps (keepsG (ps.take (k + 1)) ks) vr f w := by
  unfold CrashA
  rw [keepsG_succ hk, if_pos hb, List.map_append]
  exact Held.drop0 h
theorem keep_no {ks : List Bool} {k : Nat} (hk : k < ps.length) (hb : ks[k]? ≠ some true) (h : CrashA w0 B p d i ps (keepsG (ps.take k) ks) vr f w) : CrashA w0 B p d i ps (keepsG (ps.take (k + 1)) ks) vr f w := by
  rw [keepsG_succ hk, if_neg hb, List.append_nil]
  exact h
theorem crash_does {ab : Nat} {t : TypeId} {cs : Array Value} {k : Nat} (hk : k < kp.length)
    (h : Held w0 w ([rBlk ab t cs, rBlk p 81 (diskCells d i), rBig bytesLoc (ps.map bOf), rRows 4 185 i.vp (ps.map rowOf), rRows 4 185 vr (kp.map rowOf)] ++ rFiles i.bl (Files.does (((kp.take k).map (·.1)).foldl Files.does f) kp[k].1) :: rFiles i.bs d.seen :: rHeld i.bh d.held :: B)) :
    CrashA w0 B p d i ps kp vr (((kp.take (k + 1)).map (·.1)).foldl Files.does f) w := by
  unfold CrashA
  rw [List.take_succ_eq_append_getElem hk, List.map_append, List.foldl_append]
  exact Held.drop0 h
theorem crash_end (h : CrashA w0 B p d i ps kp vr f w) : Held w0 (w.setCell ⟨p, 3, none⟩ (.slice none 0 0)) (rDisk p { d with lasting := f, pending := [] } :: B) := by
  have h1 := Held.store (l1 := []) h 3 (.slice none 0 0)
  have h2 := Held.drop0 (Held.pull1 (Held.drop0 (Held.pull1 (Held.drop0 (Held.pull1 h1)))))
  -- blk, lasting, seen, held
  have h3 := (h2.rows_nil 4 185)
  have h4 := Held.big_nil bytesLoc h3
  have h5 := Held.acts_shut (ps := []) (Held.pull1 h4)
  -- acts, blk, lasting, seen, held
  have h6 := Held.push3 h5
  refine Held.dshut (d := { d with lasting := f, pending := [] }) { i with vp := .slice none 0 0 } ?_
  have e : (diskCells d i).setIfInBounds 3 (.slice none 0 0) = diskCells { d with lasting := f, pending := [] } { i with vp := .slice none 0 0 } := by simp [diskCells]
  rw [← e]
  exact h6.perm (.cons _ (.swap _ _ _))
/-- the last one is cut. -/
theorem crash_cut {g c nr : Nat} {init : List (Deed × Value)} {q : Deed × Value} {bA : Option Addr} {bc m : Nat} (hn : init.length + 1 = nr) (hb : q.2 = .slice bA q.1.b.length bc) (h : CrashA w0 B p d i ps (init ++ [q]) (.slice (some ⟨g, 0, none⟩) nr c) f w) :
    CrashA w0 B p d i ps (init ++ [cutPair q m]) (.slice (some ⟨g, 0, none⟩) nr c) f (w.setCell ⟨g, init.length * 4 + 3, none⟩ (.slice bA m bc)) ∧ w.frozen? ⟨g, init.length * 4 + 3, none⟩ = false := by
  have hj : ((init ++ [q]).map rowOf)[init.length]? = some (rowOf q) := by simp
  obtain ⟨h1, h2⟩ := Held.row_store (by simpa using hn) (Held.pull3 h) hj (m := 3) (by decide) (.slice bA m bc)
  refine ⟨?_, h2⟩
  have e : ((init ++ [q]).map rowOf).set init.length ((rowOf q).set 3 (.slice bA m bc)) = (init ++ [cutPair q m]).map rowOf := by
    rw [List.map_append, List.set_append_right _ _ (by simp)]
    simp [rowOf, actRow, cutPair, hb]
  rw [e] at h1
  exact Held.push3 h1
end

theorem slice_take : True := trivial

end Go.Proofs.YtdbhccehbjhbpaaGreatDoor

/- disk: New; maps.Clone of what is held; a clone half way. -/
namespace Go.Proofs.YtdbhccehbjhbpaaGreatDoor
open Go.RowKit
open Disk

section
variable {w0 w : World} {B : List Res}
theorem Held.files_made (h : Held w0 w B) : Held w0 (w.alloc (.map #[] 0)) (rFiles w.heap.size [] :: B) :=
  Held.files_close (A := []) (ys := []) (.refl _) (Held.pull1 (Held.big_nil fileLoc (h.map_made Tryz.prog 9)))
theorem Held.hold_made (h : Held w0 w B) : Held w0 (w.alloc (.map #[] 0)) (rHeld w.heap.size [] :: B) := h.map_made Tryz.prog 9
theorem Held.acts_nil (h : Held w0 w B) : Held w0 w (rActs (.slice none 0 0) [] :: B) := Held.acts_shut (ps := []) (Held.pull1 (Held.big_nil bytesLoc (h.rows_nil 4 185)))

set_option maxRecDepth 100000 in
theorem new_held (h : Held w0 w B) (k : Nat) (hk : k ≤ 16777216) :
    Calls Tryz.prog 31 #[.int .i64 k] w fun e w' => ∃ p, e = .returned (.tuple #[.pointer (some ⟨p, 0, none⟩), .int .i64 0]) ∧ Held w0 w' (rDisk p (Dk.empty k) :: B) := by
  have hmm := @run_makeMap Tryz.prog
  have h1 := h.files_made
  have h2 := h1.files_made
  have h3 := h2.hold_made
  have h4 := h3.block 81 (diskCells (Dk.empty k) ⟨w.heap.size, w.heap.size + 1, w.heap.size + 1 + 1, .slice none 0 0⟩)
  have h5 := h4.acts_nil
  have h6 := h5.pull2.pull1.pull3.pull4.pull4
  rw [World.size_alloc, World.size_alloc, World.size_alloc] at h6
  have HX := hid (Held.dshut (d := Dk.empty k) ⟨w.heap.size, w.heap.size + 1, w.heap.size + 1 + 1, .slice none 0 0⟩ h6)
  clear h h1 h2 h3 h4 h5 h6
  go_enter Tryz.func31, Tryz.ntmps31
  go_wp2_with fail
  go_ret2
  exact ⟨_, rfl, HX.out⟩

set_option maxRecDepth 100000 in
theorem mclone_any (w : World) (b : Nat) (es : Array MapEntry) (clock : Nat) (hb : w.heap[b]? = some (.map es clock)) :
    Calls Tryz.prog 149 #[.map (some b)] w fun e w' => e = .returned (.map (some w.heap.size)) ∧ w' = w.alloc (.map es clock) := by
  have hq := fun w => run_eql_map_nil_sl (P := Tryz.prog) w 79 _ _ (some b) Tryz.underlying79
  go_enter Tryz.func149, Tryz.ntmps149
  go_wp2
  rw [run_callFunc_extern Tryz.func190 (by kernel_rfl) (by kernel_rfl) (by kernel_rfl) (e := Extern.MapsClone.clone) (by kernel_rfl), run_maps_clone_sl w 79 hb]
  simp only [Result.andThen]
  rw [Oper.upon_value]
  go_wp2
  rw [run_typeAssert_map_sl _ 79 20 _ _ _ Tryz.underlying79]
  simp only [Result.andThen]
  rw [Oper.upon_value]
  go_wp2
  go_ret
  exact ⟨rfl, rfl⟩
theorem mclone_held {A : List Res} {bh : Nat} {hd : Dict Nat} (h : Held w0 w (A ++ rHeld bh hd :: B)) :
    Calls Tryz.prog 149 #[.map (some bh)] w fun e w' => ∃ b3, e = .returned (.map (some b3)) ∧ Held w0 w' (rHeld b3 hd :: (A ++ rHeld bh hd :: B)) := by
  obtain ⟨es, clk, hb, hi⟩ := h.held_at
  refine (mclone_any w bh es clk hb).mono ?_
  rintro e w' ⟨he, rfl⟩
  refine ⟨_, he, h.more (F := [w.heap.size]) ⟨⟨es, clk, heap_alloc_new w _, hi⟩, rfl⟩ ⟨(Mod.refl _ w).alloc _, by simp, fun b hb => .inr (by simp at hb; omega)⟩⟩
end

/-- the disk that is cloned, and what was cloned of it. -/
def CloneMid (w0 : World) (B : List Res) (p : Nat) (d : Dk) (bs bl bh : Nat) (vp : Value) (A : List Res) (w : World) : Prop :=
  Held w0 w (A ++ (rBlk p 81 (diskCells d ⟨bs, bl, bh, vp⟩) :: rFiles bs d.seen :: rFiles bl d.lasting :: rActs vp d.pending :: rHeld bh d.held :: B))
section
variable {w0 w : World} {B A : List Res} {p : Nat} {d : Dk} {bs bl bh : Nat} {vp : Value}
theorem CloneMid.cells (h : CloneMid w0 B p d bs bl bh vp A w) : w.cell? ⟨p, 0, none⟩ = some (.int .i64 d.room) ∧ w.cell? ⟨p, 1, none⟩ = some (.map (some bs)) ∧ w.cell? ⟨p, 2, none⟩ = some (.map (some bl)) ∧ w.cell? ⟨p, 4, none⟩ = some (.map (some bh)) := by
  have hb := Held.blk h
  exact ⟨hb.cell rfl, hb.cell rfl, hb.cell rfl, hb.cell rfl⟩
theorem perm_out {α : Type} (A : List α) (x : α) (C B : List α) : (A ++ (C ++ x :: B)).Perm (x :: (A ++ (C ++ B))) := by
  rw [← List.append_assoc, ← List.append_assoc]
  exact List.perm_middle
theorem CloneMid.seen (h : CloneMid w0 B p d bs bl bh vp A w) (hok : d.Ok) :
    Calls Tryz.prog 148 #[.map (some bs)] w fun e w' => ∃ b1, e = .returned (.map (some b1)) ∧ CloneMid w0 B p d bs bl bh vp (rFiles b1 d.seen :: A) w' := by
  have h' : Held w0 w ((A ++ [rBlk p 81 (diskCells d ⟨bs, bl, bh, vp⟩)]) ++ rFiles bs d.seen :: rFiles bl d.lasting :: rActs vp d.pending :: rHeld bh d.held :: B) := by simpa [CloneMid] using h
  refine (copied_held h' (fun q hq => ?_) (fun q hq => ?_)).mono ?_
  · have := Dk.Ok.len hok (get_of_mem hok.seenOk hq); omega
  · have := may_len (hok.seenLe q.1 q.2 (get_of_mem hok.seenOk hq)).1; omega
  · rintro e w' ⟨b1, he, g⟩
    refine ⟨b1, he, ?_⟩
    have g' := g.perm (Rs' := rFiles b1 d.seen :: ((A ++ [rBlk p 81 (diskCells d ⟨bs, bl, bh, vp⟩)]) ++ (rFiles bs d.seen :: rFiles bl d.lasting :: rActs vp d.pending :: rHeld bh d.held :: B))) List.perm_middle
    simpa [CloneMid] using g'
theorem Disk.Dk.Ok.len_last {d : Dk} (hok : d.Ok) {n x : Bytes} (h : Dict.get d.lasting n = some x) : x.length ≤ 16777216 ∧ n.length ≤ 24 := by
  have h1 := hok.lastLe n x h
  have := hok.hold_room n
  have := hok.room
  exact ⟨by omega, may_len h1.1⟩
theorem CloneMid.last (h : CloneMid w0 B p d bs bl bh vp A w) (hok : d.Ok) :
    Calls Tryz.prog 148 #[.map (some bl)] w fun e w' => ∃ b2, e = .returned (.map (some b2)) ∧ CloneMid w0 B p d bs bl bh vp (rFiles b2 d.lasting :: A) w' := by
  have h' : Held w0 w ((A ++ [rBlk p 81 (diskCells d ⟨bs, bl, bh, vp⟩), rFiles bs d.seen]) ++ rFiles bl d.lasting :: rActs vp d.pending :: rHeld bh d.held :: B) := by simpa [CloneMid] using h
  refine (copied_held h' (fun q hq => ?_) (fun q hq => ?_)).mono ?_
  · have := (hok.len_last (get_of_mem hok.lastOk hq)).1; omega
  · have := (hok.len_last (get_of_mem hok.lastOk hq)).2; omega
  · rintro e w' ⟨b1, he, g⟩
    refine ⟨b1, he, ?_⟩
    have g' := g.perm (Rs' := rFiles b1 d.lasting :: ((A ++ [rBlk p 81 (diskCells d ⟨bs, bl, bh, vp⟩), rFiles bs d.seen]) ++ (rFiles bl d.lasting :: rActs vp d.pending :: rHeld bh d.held :: B))) List.perm_middle
    simpa [CloneMid] using g'
theorem CloneMid.hold (h : CloneMid w0 B p d bs bl bh vp A w) :
    Calls Tryz.prog 149 #[.map (some bh)] w fun e w' => ∃ b3, e = .returned (.map (some b3)) ∧ CloneMid w0 B p d bs bl bh vp (rHeld b3 d.held :: A) w' := by
  have h' : Held w0 w ((A ++ [rBlk p 81 (diskCells d ⟨bs, bl, bh, vp⟩), rFiles bs d.seen, rFiles bl d.lasting, rActs vp d.pending]) ++ rHeld bh d.held :: B) := by simpa [CloneMid] using h
  refine (mclone_held h').mono ?_
  rintro e w' ⟨b1, he, g⟩
  exact ⟨b1, he, by simpa [CloneMid] using g⟩
theorem CloneMid.drew (h : CloneMid w0 B p d bs bl bh vp A w) : CloneMid w0 B p d bs bl bh vp A w.drew := Held.drew h
end
end Go.Proofs.YtdbhccehbjhbpaaGreatDoor

/- disk: Clone. -/
namespace Go.Proofs.YtdbhccehbjhbpaaGreatDoor
open Go.RowKit
open Disk

def CloneAt (w0 : World) (B : List Res) (p q : Nat) (d : Dk) (b1 b2 b3 bs bl bh : Nat) (vA : Option Addr) (vc : Nat) (ps : List (Deed × Value)) (k : Nat) (w : World) : Prop :=
  ∃ (vr : Value) (cps : List (Deed × Value)), cps.map (·.1) = (ps.take k).map (·.1) ∧
    Held w0 w (rBlk q 81 (diskCells d ⟨b1, b2, b3, vr⟩) :: rRows 4 185 (.slice vA ps.length vc) (ps.map rowOf) :: rBig bytesLoc (ps.map bOf) :: rRows 4 185 vr (cps.map rowOf) :: rBig bytesLoc (cps.map bOf) :: rFiles b1 d.seen :: rFiles b2 d.lasting :: rHeld b3 d.held :: rBlk p 81 (diskCells d ⟨bs, bl, bh, .slice vA ps.length vc⟩) :: rFiles bs d.seen :: rFiles bl d.lasting :: rHeld bh d.held :: B)
section
variable {w0 w : World} {B : List Res} {p q : Nat} {d : Dk} {b1 b2 b3 bs bl bh vc : Nat} {vA : Option Addr} {ps : List (Deed × Value)}
theorem clone_begin {A : List Res} {vp : Value} (h : CloneMid w0 B p d bs bl bh vp A w) (hA : A.Perm [rFiles b1 d.seen, rFiles b2 d.lasting, rHeld b3 d.held]) (hv : vp = .slice vA d.pending.length vc) :
    ∃ ps, ps.map (·.1) = d.pending ∧ ps.length = d.pending.length ∧ CloneAt w0 B p w.heap.size d b1 b2 b3 bs bl bh vA vc ps 0 (w.alloc (.cells #[.int .i64 d.room, .map (some b1), .map (some b2), .slice none 0 0, .map (some b3)] 81)) := by
  have h1 : Held w0 w (rFiles b1 d.seen :: rFiles b2 d.lasting :: rHeld b3 d.held :: rBlk p 81 (diskCells d ⟨bs, bl, bh, vp⟩) :: rFiles bs d.seen :: rFiles bl d.lasting :: rActs vp d.pending :: rHeld bh d.held :: B) := Held.perm h (hA.append_right _)
  obtain ⟨ps, hps, h2⟩ := Held.acts_open h1.pull6
  have hl : ps.length = d.pending.length := by rw [← hps]; simp
  refine ⟨ps, hps, hl, .slice none 0 0, [], by simp, ?_⟩
  -- rows, big, f1, f2, h3, blk, fs, fl, h
  have h3 := Held.big_nil bytesLoc (h2.rows_nil 4 185)
  -- bignil, rowsnil, rows, big, ..
  have h4 := h3.pull1.pull3.pull3
  have h5 := h4.block 81 (diskCells d ⟨b1, b2, b3, .slice none 0 0⟩)
  rw [hv, ← hl] at h5
  exact h5
theorem clone_cell {k : Nat} (h : CloneAt w0 B p q d b1 b2 b3 bs bl bh vA vc ps k w) : w.cell? ⟨p, 3, none⟩ = some (.slice vA ps.length vc) := by
  obtain ⟨vr, cps, hc, h⟩ := h
  exact (Held.blk (l1 := [_, _, _, _, _, _, _, _]) h).cell rfl
theorem clone_done (hps : ps.map (·.1) = d.pending) {k : Nat} (hk : k = ps.length) (h : CloneAt w0 B p q d b1 b2 b3 bs bl bh vA vc ps k w) : Held w0 w (rDisk q d :: rDisk p d :: B) := by
  obtain ⟨vr, cps, hc, h⟩ := h
  rw [hk, List.take_length, hps] at hc
  -- blkq, rows, big, crows, cbig, f1, f2, h3, blkp, fs, fl, h
  have h1 := Held.acts_shut (h.pull4.pull4)
  rw [hc] at h1
  -- actsq, blkq, rows, big, f1, f2, h3, blkp, fs, fl, h
  have h2 := Held.acts_shut (h1.pull3.pull3)
  rw [hps] at h2
  -- actsp, actsq, blkq, f1, f2, h3, blkp, fs, fl, h
  have h3 := Held.dshut (d := d) ⟨bs, bl, bh, .slice vA ps.length vc⟩ (h2.pull9.pull1.pull9.pull9.pull9)
  -- diskp, h.. 
  have h4 := Held.dshut (d := d) ⟨b1, b2, b3, vr⟩ ((h3.pull5.pull2.pull5.pull5.pull5))
  exact h4
theorem clone_step {ab : Nat} {t : TypeId} {cs : Array Value} {cps : List (Deed × Value)} {vr v' : Value} {k : Nat} {nA : Option Addr} {nc : Nat} (hk : k < ps.length) (hc : cps.map (·.1) = (ps.take k).map (·.1))
    (h : Held w0 w ([rBytes (.slice nA ps[k].1.b.length nc) ps[k].1.b, rBlk ab t cs, rBlk q 81 (diskCells d ⟨b1, b2, b3, vr⟩), rRows 4 185 (.slice vA ps.length vc) (ps.map rowOf), rBig bytesLoc (ps.map bOf)] ++ rRows 4 185 v' (cps.map rowOf ++ [[.int .i64 ps[k].1.kind, .string ⟨ps[k].1.name.toArray⟩, .int .i64 ps[k].1.at_, .slice nA ps[k].1.b.length nc]]) :: rBig bytesLoc (cps.map bOf) :: rFiles b1 d.seen :: rFiles b2 d.lasting :: rHeld b3 d.held :: rBlk p 81 (diskCells d ⟨bs, bl, bh, .slice vA ps.length vc⟩) :: rFiles bs d.seen :: rFiles bl d.lasting :: rHeld bh d.held :: B)) :
    CloneAt w0 B p q d b1 b2 b3 bs bl bh vA vc ps (k + 1) (w.setCell ⟨q, 3, none⟩ v') := by
  have h1 := Held.drop0 (Held.pull1 h)
  -- bytes, blkq, rows, big, crows, cbig, ..
  have h2 := Held.store (l1 := [_]) h1 3 v'
  have e : (diskCells d ⟨b1, b2, b3, vr⟩).setIfInBounds 3 v' = diskCells d ⟨b1, b2, b3, v'⟩ := by simp [diskCells]
  rw [e] at h2
  refine ⟨v', cps ++ [(ps[k].1, .slice nA ps[k].1.b.length nc)], ?_, ?_⟩
  · rw [List.map_append, hc, List.take_succ_eq_append_getElem hk, List.map_append]
    rfl
  · have h3 := Held.push1 (Held.pull5 h2)
    -- bytes, cbig, blkq, rows, big, crows, ..
    have h4 := Held.big_snoc (A := []) bytesLoc (l := cps.map bOf) (x := (.slice nA ps[k].1.b.length nc, ps[k].1.b)) (h3.pull1)
    have h5 := Held.push4 h4
    rw [List.map_append, List.map_append]
    exact h5
end

set_option maxRecDepth 100000 in
set_option maxHeartbeats 4000000 in
theorem clone_disk {w0 w : World} {B : List Res} {p : Nat} {d : Dk} (h : Held w0 w (rDisk p d :: B)) (hok : d.Ok) (hpl : d.pending.length ≤ 1000000) :
    Calls Tryz.prog 95 #[.pointer (some ⟨p, 0, none⟩)] w fun e w' => ∃ q, e = .returned (.pointer (some ⟨q, 0, none⟩)) ∧ Held w0 w' (rDisk q d :: rDisk p d :: B) := by
  obtain ⟨⟨bs, bl, bh, vp⟩, h1⟩ := h.dopen
  have hm : CloneMid w0 B p d bs bl bh vp [] w := h1
  obtain ⟨vA, vc, hvp, -, -⟩ : ∃ vA vc, vp = .slice vA d.pending.length vc ∧ d.pending.length ≤ vc ∧ vc ≤ 9223372036854775807 := by
    obtain ⟨ps, hps, h2⟩ := Held.acts_open h1.pull3
    obtain ⟨A, c, hv, r1, r2⟩ := Held.rows_form (l1 := []) h2
    have hl : (ps.map rowOf).length = d.pending.length := by rw [← hps]; simp
    rw [hl] at hv r1
    exact ⟨A, c, hv, r1, r2⟩
  obtain ⟨c0, c1, c2, c4⟩ := hm.cells
  have HM := hid (dmade_any w p (some bs) c1)
  have HV := hid hvp
  have HS := hid hm.drew
  have HK := hid (And.intro hok hpl)
  clear h h1 hok hpl hm hvp
  go_enter Tryz.func95, Tryz.ntmps95
  go_wp2_with (first
    | (go_at_call 147; refine HM.out.mono ?_; rintro e w' ⟨rfl, rfl⟩))
  go_region_held3 (fun w' => w'.cell? ⟨p, 0, none⟩ = some (.int .i64 d.room) ∧ w'.cell? ⟨p, 1, none⟩ = some (.map (some bs)) ∧ w'.cell? ⟨p, 2, none⟩ = some (.map (some bl)) ∧ w'.cell? ⟨p, 4, none⟩ = some (.map (some bh)))
    (first | exact ⟨d0, d1, d2, d4⟩ | exact ⟨c0, c1, c2, c4⟩ | exact ⟨((Mod.refl (fun _ => False) _).alloc _).cell d0 (fun h => h), ((Mod.refl (fun _ => False) _).alloc _).cell d1 (fun h => h), ((Mod.refl (fun _ => False) _).alloc _).cell d2 (fun h => h), ((Mod.refl (fun _ => False) _).alloc _).cell d4 (fun h => h)⟩)
    (first
      | (go_at_call 148; (with_reducible refine (CloneMid.seen HS.out HK.out.1).mono ?_); rintro e w1 ⟨b1, rfl, g⟩; obtain ⟨d0, d1, d2, d4⟩ := g.cells; clear HS; have HS := hid g; clear g)
      | (go_at_call 148; (with_reducible refine (CloneMid.last HS.out HK.out.1).mono ?_); rintro e w1 ⟨b2, rfl, g⟩; obtain ⟨d0, d1, d2, d4⟩ := g.cells; clear HS; have HS := hid g; clear g)
      | (go_at_call 149; (with_reducible refine (CloneMid.hold HS.out).mono ?_); rintro e w1 ⟨b3, rfl, g⟩; obtain ⟨d0, d1, d2, d4⟩ := g.cells; clear HS; have HS := hid g; clear g))
  all_goals
    obtain ⟨ps, hps, hpl, hC⟩ := clone_begin (b1 := b1) (b2 := b2) (b3 := b3) HS.out (by first
      | exact .refl _
      | exact .swap _ _ _
      | exact .cons _ (.swap _ _ _)
      | exact (List.perm_append_comm (l₁ := [_]) (l₂ := [_, _]))
      | exact (List.perm_append_comm (l₁ := [_, _]) (l₂ := [_]))
      | exact ((List.perm_append_comm (l₁ := [_]) (l₂ := [_, _])).trans (.swap _ _ _))
      | exact ((List.perm_append_comm (l₁ := [_, _]) (l₂ := [_])).trans (.swap _ _ _))
      | exact ((List.perm_append_comm (l₁ := [_, _]) (l₂ := [_])).trans (.cons _ (.swap _ _ _)))) HV.out
    have e3 : (w1.alloc (.cells #[.int .i64 d.room, .map (some b1), .map (some b2), .slice none 0 0, .map (some b3)] 81)).cell? ⟨p, 3, none⟩ = some (.slice vA ps.length vc) := clone_cell hC
    have HC := hid hC
    have HP := hid hps
    have hpsl : ps.length ≤ 1000000 := by rw [hpl]; exact HK.out.2
    clear hC hps hpl c0 c1 c2 c4 d0 d1 d2 d4 HS
    generalize w1.alloc (.cells #[.int .i64 d.room, .map (some b1), .map (some b2), .slice none 0 0, .map (some b3)] 81) = w2 at *
    generalize w1.heap.size = q at *
    go_wp2_with fail
    clear e3
    go_loopw [35] (fun iv wr => ∃ k : Nat, k ≤ ps.length ∧ iv = .int .i64 k ∧ CloneAt w0 B p q d b1 b2 b3 bs bl bh vA vc ps k wr) (fun iv _ => ps.length - (intOf iv).toNat)
    case atStart => exact ⟨0, Nat.zero_le _, rfl, HC.out⟩
    case round =>
      obtain ⟨k, hk, rfl, hA⟩ := hrel
      by_cases hlt : k < ps.length
      · obtain ⟨vr, cps, hcps, hh⟩ := hA
        obtain ⟨g, c, hvp, r0, r1, r2, r3⟩ := row4 (Held.pull1 hh) hlt
        obtain ⟨bA, bc, hb, l1, l2⟩ := Held.bytes_form (Held.pull2 hh) (List.getElem_mem hlt)
        have hrd := Held.bytes_at (Held.pull2 hh) (List.getElem_mem hlt)
        injection hvp with hvp _ hvc
        subst hvp hvc
        rw [hb] at r3 hrd
        have hmem : ps[k].1 ∈ d.pending := by rw [← HP.out]; exact List.mem_map_of_mem (List.getElem_mem hlt)
        obtain ⟨-, -, e3⟩ := HK.out.1.deed hmem
        have HT := hid (fun (w : World) (ab : Nat) (t : TypeId) (cs : Array Value) (vr v' : Value) (nA : Option Addr) (nc : Nat) hx => clone_step (w0 := w0) (w := w) (B := B) (p := p) (q := q) (d := d) (b1 := b1) (b2 := b2) (b3 := b3) (bs := bs) (bl := bl) (bh := bh) (vc := vc) (vA := some ⟨g, 0, none⟩) (ps := ps) (ab := ab) (t := t) (cs := cs) (cps := cps) (vr := vr) (v' := v') (nA := nA) (nc := nc) hlt hcps hx)
        have hcl : cps.length = k := by have := congrArg List.length hcps; simpa [Nat.min_eq_left hk] using this
        obtain ⟨rA, rc, hvr, m1, m2⟩ := Held.rows_form (l1 := [_, _, _]) hh
        rw [List.length_map, hcl] at hvr m1
        subst hvr
        have hg0 := (hh.block 185 #[.int .i64 ps[k].1.kind, .string ⟨ps[k].1.name.toArray⟩, .int .i64 ps[k].1.at_, .slice bA ps[k].1.b.length bc])
        obtain ⟨a, ha⟩ : ∃ a, a = ps[k].1 := ⟨_, rfl⟩
        have HV2 := hid ha
        rw [← ha] at r0 r1 r2 r3 hg0 hrd HT l1 e3
        have CC := hid (clone_held hg0 (fun _ => True) _ a.b (hrd.alloc _) (by omega))
        have HCL := hid hcl
        clear hh hb hmem ha hg0 hrd hcps hcl
        unfold sv at r1
        go_wp2_with fail
        refine CC.out.mono ?_
        rintro e w3 ⟨v1, rfl, g3⟩
        obtain ⟨nA, nc, rfl, -, -⟩ := Held.form (l1 := []) g3
        have f3 := (Held.blk (l1 := [_]) g3).frozen 3
        have k3 : w3.cell? ⟨wr.heap.size, 3, none⟩ = some (.slice bA a.b.length bc) := (Held.blk (l1 := [_]) g3).cell rfl
        have g4 := Held.store (l1 := [_]) g3 3 (.slice nA a.b.length nc)
        have HG := hid g4
        clear g3 g4 CC r0 r1 r2 r3
        go_wp2_with fail
        generalize w3.setCell ⟨wr.heap.size, 3, none⟩ (.slice nA a.b.length nc) = w4 at *
        generalize wr.heap.size = ab at *
        clear f3 k3
        have g5 : Held w0 w4 ([rBytes (.slice nA a.b.length nc) a.b, rBlk ab 185 #[.int .i64 a.kind, .string ⟨a.name.toArray⟩, .int .i64 a.at_, .slice nA a.b.length nc], rBlk q 81 (diskCells d ⟨b1, b2, b3, .slice rA k rc⟩), rRows 4 185 (.slice (some ⟨g, 0, none⟩) ps.length vc) (ps.map rowOf), rBig bytesLoc (ps.map bOf)] ++ rRows 4 185 (.slice rA k rc) (cps.map rowOf) :: rBig bytesLoc (cps.map bOf) :: rFiles b1 d.seen :: rFiles b2 d.lasting :: rHeld b3 d.held :: rBlk p 81 (diskCells d ⟨bs, bl, bh, .slice (some ⟨g, 0, none⟩) ps.length vc⟩) :: rFiles bs d.seen :: rFiles bl d.lasting :: rHeld bh d.held :: B) := HG.out
        have x0 : w4.cell? ⟨ab, 0, none⟩ = some (.int .i64 a.kind) := (Held.blk (l1 := [_]) g5).cell rfl
        have x1 : w4.cell? ⟨ab, 1, none⟩ = some (.string ⟨a.name.toArray⟩) := (Held.blk (l1 := [_]) g5).cell rfl
        have x2 : w4.cell? ⟨ab, 2, none⟩ = some (.int .i64 a.at_) := (Held.blk (l1 := [_]) g5).cell rfl
        have x3 : w4.cell? ⟨ab, 3, none⟩ = some (.slice nA a.b.length nc) := (Held.blk (l1 := [_]) g5).cell rfl
        have y3 : w4.cell? ⟨q, 3, none⟩ = some (.slice rA k rc) := (Held.blk (l1 := [_, _]) g5).cell rfl
        have z3 : ∀ o, (w4.alloc o).cell? ⟨q, 3, none⟩ = some (.slice rA k rc) := fun o => ((Mod.refl (fun _ => False) w4).alloc o).cell y3 (fun h => h)
        have HG5 := hid g5
        obtain ⟨iA, iz, is, ib, iy⟩ := info_parts Tryz.infoAct
        have HI := hid (And.intro iz (And.intro is (And.intro ib iy)))
        have HRL := hid (show (cps.map rowOf).length = k by rw [List.length_map]; exact HCL.out)
        clear g5 HG iz is ib iy
        go_region_law (refine step_append_row [rBytes (.slice nA a.b.length nc) a.b, rBlk ab 185 #[.int .i64 a.kind, .string ⟨a.name.toArray⟩, .int .i64 a.at_, .slice nA a.b.length nc], rBlk q 81 _, rRows 4 185 _ _, rBig bytesLoc _] _ rfl _ _ 78 rfl 4 185 iA _ 56 Tryz.underlying78 HI.out.1 HI.out.2.1 HI.out.2.2.1 HI.out.2.2.2 rfl (by decide) (.slice rA k rc) (cps.map rowOf) k HRL.out rfl (HG5.out.step (by repeat (first | exact Mod.refl _ _ | refine Mod.alloc ?_ _ | refine Mod.drew ?_))) _ _ [.int .i64 a.kind, .string ⟨a.name.toArray⟩, .int .i64 a.at_, .slice nA a.b.length nc] rfl rfl (World.news_of_block (heap_alloc_new w4 _)) (by intro u hu; simp only [List.mem_cons, List.not_mem_nil, or_false] at hu; rcases hu with rfl | rfl | rfl | rfl <;> rfl) (by omega) (by unfold maxLen; omega) ?_; intro A' c' w5 p1 p2 g6; have G6 := hid g6; have hb6 := Held.blk (l1 := [_, _]) g6; have hf6 := hb6.frozen 3; have hc6 : w5.cell? ⟨q, 3, none⟩ = some (.slice rA k rc) := hb6.cell rfl; clear g6 hb6)
        all_goals
          have HX := hid (HT.out _ _ _ _ _ _ _ _ G6.out)
          clear hf6 hc6 x0 x1 x2 x3 y3 z3 G6
          generalize w5.setCell ⟨q, 3, none⟩ (.slice A' (k + 1) c') = w6 at *
          go_wp2_with fail
          exact ⟨⟨k + 1, by omega, by simp, HX.out⟩, by show ps.length - ((k : Int) + 1).toNat < ps.length - (k : Int).toNat; omega⟩
      · have hke : k = ps.length := by omega
        have HE := hid (clone_done HP.out hke hA)
        clear hA hke
        go_wp2_with fail
        go_ret
        exact ⟨_, rfl, HE.out⟩
end Go.Proofs.YtdbhccehbjhbpaaGreatDoor

/- A map, in the words of the kit's contracts on maps.Keys (ownsMap). Nothing of the program. -/
namespace Go.Proofs.YtdbhccehbjhbpaaGreatDoor
open Go.RowKit
open Go.Maps (Keyed)

def anyElem : Value → Option (DataW Unit × List MemPlace) := fun _ => some (.lit (.bool true), [])

theorem MapAt.owns {P : Program} {kt : TypeId} {w : World} {b : Nat} {L : List (Value × Value)} (h : MapAt P kt w b L) (hl : L.length ≤ maxLen) :
    ∃ es : List (Lit × DataW Unit), w.ownsMap P kt anyElem b L.length (.map es) ∧ es.length = L.length ∧ (es.map (·.1)).Perm (L.map fun p => (keyOf P kt p.1).getD (.bool false)) := by
  obtain ⟨es0, clk, hb, hi⟩ := h
  have hsz : es0.size = L.length := by
    have := hi.perm.length_eq
    simpa [entL] using this
  refine ⟨((es0.toList.map (Go.WideElems.rg P kt anyElem)).foldr DataW.insert []), ⟨es0, clk, hb, ⟨by omega, ⟨hi.young, hi.stamps, hi.apart⟩, fun x hx => ?_⟩, by omega, rfl⟩, ?_, ?_⟩
  · obtain ⟨l, hk⟩ := hi.keyed x hx
    exact ⟨_, by unfold Go.WideElems.rd anyElem; rw [hk]; rfl⟩
  · rw [Go.length_sorted]; simpa using hsz
  · refine ((Go.WideShapes.sorted_perm _).map _).trans ?_
    have h1 := (hi.perm.map fun p => (keyOf P kt p.1).getD (.bool false))
    refine List.Perm.trans (.of_eq ?_) h1
    unfold entL
    rw [List.map_map, List.map_map]
    refine List.map_congr_left fun x hx => ?_
    obtain ⟨l, hk⟩ := hi.keyed x hx
    simp only [Function.comp, Go.WideElems.rg, Go.WideElems.rd, anyElem, hk, Option.bind_some, Option.map_some, Option.getD_some]
end Go.Proofs.YtdbhccehbjhbpaaGreatDoor
