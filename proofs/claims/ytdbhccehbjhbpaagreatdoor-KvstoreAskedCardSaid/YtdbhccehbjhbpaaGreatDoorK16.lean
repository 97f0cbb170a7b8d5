/- kvstore: Scan, Since; Open of an empty disk; begun. -/
import Derived.Test.YtdbhccehbjhbpaaGreatDoorK15
import Derived.Test.YtdbhccehbjhbpaaGreatDoorK13
import Derived.Test.YtdbhccehbjhbpaaGreatDoorT20
import Derived.Test.YtdbhccehbjhbpaaGreatDoorQ9
import Derived.OwnWalk

namespace Go.Proofs.YtdbhccehbjhbpaaGreatDoor
open Go.RowKit
open Disk (Dk Dict)
open Slog (Seg recsOf Lg)
open Kv (It KOp Items)

theorem alloc_size (w : World) (o : Obj) : (w.alloc o).heap.size = w.heap.size + 1 := by
  show (w.heap.push o).size = _
  rw [Array.size_push]
section
variable {w0 w : World} {B : List Res} {sp p : Nat} {s : Kv.St}
set_option maxRecDepth 100000 in
set_option maxHeartbeats 1000000 in
theorem kscan_held (h : Held w0 w (rKv sp p s :: B)) (hs : Kv.ItemsOk s.items s.version) (hv : s.version ≤ 245) (a b : List UInt8) :
    Calls Tryz.prog 14 #[.pointer (some ⟨sp, 0, none⟩), sv a, sv b] w fun e w' => ∃ v, e = .returned v ∧ Held w0 w' (rIts v (Kv.scan s.items a b) :: rKv sp p s :: B) := by
  have h1 := (h.block 9 #[sv a])
  have h2 := (h1.block 9 #[sv b])
  have hr := rising_scan (a := a) (b := b) h2.pull1.pull2 hs hv
  rw [alloc_size] at hr
  have HR := hid hr
  clear hr
  unfold sv at HR ⊢
  clear h h1 h2
  go_enter Tryz.func14, Tryz.ntmps14
  go_wp2_with (first
    | (go_at_call 40; refine HR.out.mono ?_; rintro e w1 ⟨v, rfl, g1⟩; have G1 := hid g1; clear g1))
  go_ret
  exact ⟨_, rfl, G1.out.pull2.drop0.pull2.drop0⟩
set_option maxRecDepth 100000 in
theorem ksince_held (h : Held w0 w (rKv sp p s :: B)) (hs : Kv.ItemsOk s.items s.version) (hv : s.version ≤ 245) (m : Int) :
    Calls Tryz.prog 15 #[.pointer (some ⟨sp, 0, none⟩), .int .i64 m] w fun e w' => ∃ v, e = .returned v ∧ Held w0 w' (rIts v (Kv.since s.items m) :: rKv sp p s :: B) := by
  have h1 := (h.block 3 #[.int .i64 m])
  have HR := hid (rising_since (m := m) h1.pull1 hs hv)
  rw [since_eq]
  clear h h1
  go_enter Tryz.func15, Tryz.ntmps15
  go_wp2_with (first
    | (go_at_call 40; refine HR.out.mono ?_; rintro e w1 ⟨v, rfl, g1⟩; have G1 := hid g1; clear g1))
  go_ret
  exact ⟨_, rfl, G1.out.pull2.drop0⟩
end

/-- no records: no snapshot. -/
theorem begin_none (w : World) (A : Option Addr) (c : Nat) :
    Calls Tryz.prog 61 #[.slice A 0 c] w fun e w' => e = .returned (.int .i64 (-1)) ∧ w' = w := by
  go_enter Tryz.func61, Tryz.ntmps61
  go_wp2_with fail
  refine wp_loop_rounds 1 ?_
  rw [rounds_succ]
  go_wp2_with fail
  refine wp_loop_rounds 1 ?_
  rw [rounds_succ]
  go_wp2_with fail
  go_ret
  exact ⟨rfl, rfl⟩

/-- a store on an empty disk. -/
def kDk (k : Nat) : Dk := Slog.opened (Dk.empty k) []
def kst (k : Nat) : Kv.St := ⟨kDk k, ⟨[], 1, 1, 1⟩, [], 0, 0⟩
theorem kst_good {k : Nat} (hk : k ≤ 16777216) : Kv.Good (kst k) := ⟨Slog.begun_good k hk, Kv.ItemsOk.nil, Nat.le_refl _, Nat.le_refl _⟩

set_option maxRecDepth 100000 in
set_option maxHeartbeats 1000000 in
theorem kopen_empty {w0 w : World} {B : List Res} {p : Nat} {k : Nat} (h : Held w0 w (rDisk p (Dk.empty k) :: B)) (hk : k ≤ 16777216) :
    Calls Tryz.prog 27 #[.pointer (some ⟨p, 0, none⟩)] w fun e w' => ∃ sp, e = .returned (.tuple #[.pointer (some ⟨sp, 0, none⟩), .int .i64 0]) ∧ Held w0 w' (rKv sp p (kst k) :: B) := by
  have HO := hid (open_held h (Slog.begun_left k hk) (k := 1) (n := 1) rfl ⟨Nat.le_refl _, fun _ => rfl⟩ (fun ls s e => by simp at e) (fun s hs => by cases hs) (by decide) (by simp [Dk.empty]))
  have hgd := (kst_good hk).log
  have HRD := hid (fun w1 q B1 (g1 : Held w0 w1 (rLog q p [] 1 :: B1)) => lread_good (l := ⟨[], 1, 1, 1⟩) g1 hgd 0)
  have HF := hid (fun w1 q B1 (g1 : Held w0 w1 (rLog q p [] 1 :: B1)) => lfirst_good (l := ⟨[], 1, 1, 1⟩) g1 hgd)
  have hrn : readFrom 1 (recsOf []) 0 = [] := by decide
  dsimp only at HRD HF
  rw [hrn] at HRD
  have hmm := @run_makeMap Tryz.prog
  clear h hgd hrn
  go_enter Tryz.func27, Tryz.ntmps27
  go_wp2_with (first
    | (go_at_call 59; refine HO.out.mono ?_; rintro e w1 ⟨q, rfl, g1⟩; have G1 := hid g1; clear g1)
    | (go_at_call 60; refine (HRD.out _ _ _ G1.out).mono ?_; rintro e w2 ⟨v, rfl, g2⟩; obtain ⟨rA, rc, rfl, -, -⟩ := g2.recs_form; have G2 := hid g2; clear g2)
    | (go_at_call 61; refine (begin_none _ _ _).mono ?_; rintro e w3 ⟨rfl, rfl⟩)
    | (go_at_call 62; refine (HF.out _ _ _ G2.out.pull1).mono ?_; rintro e w3 ⟨rfl, g3⟩; have G3 := hid g3; clear g3))
  all_goals
    refine wp_loop_rounds 1 ?_
    rw [rounds_succ]
    go_wp2_with fail
    have g4 := G3.out.items_made
    have g5 := g4.block 122 #[.int .i64 0, .map (some w3.heap.size), .map none, .string ⟨#[]⟩]
    rw [alloc_size] at g5
    have x0 := g5.blk0.cell (i := 0) rfl
    have x1 := g5.blk0.cell (i := 1) rfl
    generalize ((w3.alloc (.map #[] 0)).alloc (.cells #[.int .i64 0, .map (some w3.heap.size), .map none, .string ⟨#[]⟩] 122)) = w5 at *
    generalize w3.heap.size = bm at *
    have G5 := hid g5
    clear g4 g5 G3 G2 G1
    go_still_tail 13, (by kernel_rfl)
    go_wp2_with fail
    go_ret2
    have g6 := ((G5.out.drop0.pull2.drop0).block 73 (storeCells q bm 0 0)).drew
    exact ⟨_, rfl, Held.kshut (kst k) g6⟩

set_option maxRecDepth 100000 in
theorem kbegun_held {w0 w : World} {B : List Res} (h : Held w0 w B) (k : Nat) (hk : k ≤ 16777216) :
    Calls Tryz.prog 11 #[.int .i64 k] w fun e w' => ∃ p sp, e = .returned (.tuple #[.pointer (some ⟨p, 0, none⟩), .pointer (some ⟨sp, 0, none⟩), .bool true]) ∧ Held w0 w' (rKv sp p (kst k) :: B) := by
  have HN := hid (new_held h k hk)
  have HO := hid (fun w1 p (g1 : Held w0 w1 (rDisk p (Dk.empty k) :: B)) => kopen_empty g1 hk)
  clear h
  go_enter Tryz.func11, Tryz.ntmps11
  go_wp2_with (first
    | (go_at_call 31; refine HN.out.mono ?_; rintro e w1 ⟨p, rfl, g1⟩; have G1 := hid g1; clear g1)
    | (go_at_call 27; refine (HO.out _ _ G1.out).mono ?_; rintro e w2 ⟨sp, rfl, g2⟩; have G2 := hid g2; clear g2))
  go_ret3
  exact ⟨p, sp, rfl, G2.out⟩
end Go.Proofs.YtdbhccehbjhbpaaGreatDoor
