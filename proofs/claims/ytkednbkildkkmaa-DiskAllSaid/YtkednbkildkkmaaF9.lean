/- disk: New; maps.Clone of what is held; a clone half way. -/
import Derived.Test.YtkednbkildkkmaaF8
import Derived.Shelf.SlMaps.Clone
namespace Go.Proofs.Ytkednbkildkkmaa
open Go.RowKit
open Disk

section
variable {w0 w : World} {B : List Res}
theorem Held.files_made (h : Held w0 w B) : Held w0 (w.alloc (.map #[] 0)) (rFiles w.heap.size [] :: B) :=
  Held.files_close (A := []) (ys := []) (.refl _) (Held.pull1 (Held.big_nil fileLoc (h.map_made Try.prog 9)))
theorem Held.hold_made (h : Held w0 w B) : Held w0 (w.alloc (.map #[] 0)) (rHeld w.heap.size [] :: B) := h.map_made Try.prog 9
theorem Held.acts_nil (h : Held w0 w B) : Held w0 w (rActs (.slice none 0 0) [] :: B) := Held.acts_shut (ps := []) (Held.pull1 (Held.big_nil bytesLoc (h.rows_nil 4 72)))

set_option maxRecDepth 100000 in
theorem new_held (h : Held w0 w B) (k : Nat) (hk : k ≤ 16777216) :
    Calls Try.prog 28 #[.int .i64 k] w fun e w' => ∃ p, e = .returned (.tuple #[.pointer (some ⟨p, 0, none⟩), .int .i64 0]) ∧ Held w0 w' (rDisk p (Dk.empty k) :: B) := by
  have hmm := @run_makeMap Try.prog
  have h1 := h.files_made
  have h2 := h1.files_made
  have h3 := h2.hold_made
  have h4 := h3.block 52 (diskCells (Dk.empty k) ⟨w.heap.size, w.heap.size + 1, w.heap.size + 1 + 1, .slice none 0 0⟩)
  have h5 := h4.acts_nil
  have h6 := h5.pull2.pull1.pull3.pull4.pull4
  rw [World.size_alloc, World.size_alloc, World.size_alloc] at h6
  have HX := hid (Held.dshut (d := Dk.empty k) ⟨w.heap.size, w.heap.size + 1, w.heap.size + 1 + 1, .slice none 0 0⟩ h6)
  clear h h1 h2 h3 h4 h5 h6
  go_enter Try.func28, Try.ntmps28
  go_wp2_with fail
  go_ret2
  exact ⟨_, rfl, HX.out⟩

set_option maxRecDepth 100000 in
theorem mclone_any (w : World) (b : Nat) (es : Array MapEntry) (clock : Nat) (hb : w.heap[b]? = some (.map es clock)) :
    Calls Try.prog 44 #[.map (some b)] w fun e w' => e = .returned (.map (some w.heap.size)) ∧ w' = w.alloc (.map es clock) := by
  have hq := fun w => run_eql_map_nil_sl (P := Try.prog) w 50 _ _ (some b) Try.underlying50
  go_enter Try.func44, Try.ntmps44
  go_wp2
  rw [run_callFunc_extern Try.func52 (by kernel_rfl) (by kernel_rfl) (by kernel_rfl) (e := Extern.MapsClone.clone) (by kernel_rfl), run_maps_clone_sl w 50 hb]
  simp only [Result.andThen]
  rw [Oper.upon_value]
  go_wp2
  rw [run_typeAssert_map_sl _ 50 20 _ _ _ Try.underlying50]
  simp only [Result.andThen]
  rw [Oper.upon_value]
  go_wp2
  go_ret
  exact ⟨rfl, rfl⟩
theorem mclone_held {A : List Res} {bh : Nat} {hd : Dict Nat} (h : Held w0 w (A ++ rHeld bh hd :: B)) :
    Calls Try.prog 44 #[.map (some bh)] w fun e w' => ∃ b3, e = .returned (.map (some b3)) ∧ Held w0 w' (rHeld b3 hd :: (A ++ rHeld bh hd :: B)) := by
  obtain ⟨es, clk, hb, hi⟩ := h.held_at
  refine (mclone_any w bh es clk hb).mono ?_
  rintro e w' ⟨he, rfl⟩
  refine ⟨_, he, h.more (F := [w.heap.size]) ⟨⟨es, clk, heap_alloc_new w _, hi⟩, rfl⟩ ⟨(Mod.refl _ w).alloc _, by simp, fun b hb => .inr (by simp at hb; omega)⟩⟩
end

/-- the disk that is cloned, and what was cloned of it. -/
def CloneMid (w0 : World) (B : List Res) (p : Nat) (d : Dk) (bs bl bh : Nat) (vp : Value) (A : List Res) (w : World) : Prop :=
  Held w0 w (A ++ (rBlk p 52 (diskCells d ⟨bs, bl, bh, vp⟩) :: rFiles bs d.seen :: rFiles bl d.lasting :: rActs vp d.pending :: rHeld bh d.held :: B))
section
variable {w0 w : World} {B A : List Res} {p : Nat} {d : Dk} {bs bl bh : Nat} {vp : Value}
theorem CloneMid.cells (h : CloneMid w0 B p d bs bl bh vp A w) : w.cell? ⟨p, 0, none⟩ = some (.int .i64 d.room) ∧ w.cell? ⟨p, 1, none⟩ = some (.map (some bs)) ∧ w.cell? ⟨p, 2, none⟩ = some (.map (some bl)) ∧ w.cell? ⟨p, 4, none⟩ = some (.map (some bh)) := by
  have hb := Held.blk h
  exact ⟨hb.cell rfl, hb.cell rfl, hb.cell rfl, hb.cell rfl⟩
theorem perm_out {α : Type} (A : List α) (x : α) (C B : List α) : (A ++ (C ++ x :: B)).Perm (x :: (A ++ (C ++ B))) := by
  rw [← List.append_assoc, ← List.append_assoc]
  exact List.perm_middle
theorem CloneMid.seen (h : CloneMid w0 B p d bs bl bh vp A w) (hok : d.Ok) :
    Calls Try.prog 43 #[.map (some bs)] w fun e w' => ∃ b1, e = .returned (.map (some b1)) ∧ CloneMid w0 B p d bs bl bh vp (rFiles b1 d.seen :: A) w' := by
  have h' : Held w0 w ((A ++ [rBlk p 52 (diskCells d ⟨bs, bl, bh, vp⟩)]) ++ rFiles bs d.seen :: rFiles bl d.lasting :: rActs vp d.pending :: rHeld bh d.held :: B) := by simpa [CloneMid] using h
  refine (copied_held h' (fun q hq => ?_) (fun q hq => ?_)).mono ?_
  · have := Dk.Ok.len hok (get_of_mem hok.seenOk hq); omega
  · have := may_len (hok.seenLe q.1 q.2 (get_of_mem hok.seenOk hq)).1; omega
  · rintro e w' ⟨b1, he, g⟩
    refine ⟨b1, he, ?_⟩
    have g' := g.perm (Rs' := rFiles b1 d.seen :: ((A ++ [rBlk p 52 (diskCells d ⟨bs, bl, bh, vp⟩)]) ++ (rFiles bs d.seen :: rFiles bl d.lasting :: rActs vp d.pending :: rHeld bh d.held :: B))) List.perm_middle
    simpa [CloneMid] using g'
theorem Disk.Dk.Ok.len_last {d : Dk} (hok : d.Ok) {n x : Bytes} (h : Dict.get d.lasting n = some x) : x.length ≤ 16777216 ∧ n.length ≤ 24 := by
  have h1 := hok.lastLe n x h
  have := hok.hold_room n
  have := hok.room
  exact ⟨by omega, may_len h1.1⟩
theorem CloneMid.last (h : CloneMid w0 B p d bs bl bh vp A w) (hok : d.Ok) :
    Calls Try.prog 43 #[.map (some bl)] w fun e w' => ∃ b2, e = .returned (.map (some b2)) ∧ CloneMid w0 B p d bs bl bh vp (rFiles b2 d.lasting :: A) w' := by
  have h' : Held w0 w ((A ++ [rBlk p 52 (diskCells d ⟨bs, bl, bh, vp⟩), rFiles bs d.seen]) ++ rFiles bl d.lasting :: rActs vp d.pending :: rHeld bh d.held :: B) := by simpa [CloneMid] using h
  refine (copied_held h' (fun q hq => ?_) (fun q hq => ?_)).mono ?_
  · have := (hok.len_last (get_of_mem hok.lastOk hq)).1; omega
  · have := (hok.len_last (get_of_mem hok.lastOk hq)).2; omega
  · rintro e w' ⟨b1, he, g⟩
    refine ⟨b1, he, ?_⟩
    have g' := g.perm (Rs' := rFiles b1 d.lasting :: ((A ++ [rBlk p 52 (diskCells d ⟨bs, bl, bh, vp⟩), rFiles bs d.seen]) ++ (rFiles bl d.lasting :: rActs vp d.pending :: rHeld bh d.held :: B))) List.perm_middle
    simpa [CloneMid] using g'
theorem CloneMid.hold (h : CloneMid w0 B p d bs bl bh vp A w) :
    Calls Try.prog 44 #[.map (some bh)] w fun e w' => ∃ b3, e = .returned (.map (some b3)) ∧ CloneMid w0 B p d bs bl bh vp (rHeld b3 d.held :: A) w' := by
  have h' : Held w0 w ((A ++ [rBlk p 52 (diskCells d ⟨bs, bl, bh, vp⟩), rFiles bs d.seen, rFiles bl d.lasting, rActs vp d.pending]) ++ rHeld bh d.held :: B) := by simpa [CloneMid] using h
  refine (mclone_held h').mono ?_
  rintro e w' ⟨b1, he, g⟩
  exact ⟨b1, he, by simpa [CloneMid] using g⟩
theorem CloneMid.drew (h : CloneMid w0 B p d bs bl bh vp A w) : CloneMid w0 B p d bs bl bh vp A w.drew := Held.drew h
end
end Go.Proofs.Ytkednbkildkkmaa
