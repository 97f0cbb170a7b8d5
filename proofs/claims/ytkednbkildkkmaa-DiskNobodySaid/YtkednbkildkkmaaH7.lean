/- DiskNobody: the walk. -/
import Derived.Test.YtkednbkildkkmaaH71
namespace Go.Proofs.Ytkednbkildkkmaa
open Go.RowKit
open Disk

structure NobAt (w : World) (kb sb : Nat) (c0 c1 c2 c3 c4 u v : Value) (wr : World) : Prop where
  mod : Mod (fun _ => False) w wr
  k : Blk wr kb 35 #[c0, c1, c2, c3, c4]
  s : Blk wr sb 24 #[u, v]
  nu : NotMade u wr
  nv : NotMade v wr
theorem NobAt.step {w : World} {kb sb : Nat} {c0 c1 c2 c3 c4 u v : Value} {wr w' : World} (h : NobAt w kb sb c0 c1 c2 c3 c4 u v wr) (hm : Mod (fun _ => False) wr w') : NobAt w kb sb c0 c1 c2 c3 c4 u v w' :=
  ⟨h.mod.trans' hm, h.k.mod hm (fun h => h), h.s.mod hm (fun h => h), h.nu.step hm, h.nv.step hm⟩
theorem NobAt.cells {w : World} {kb sb : Nat} {c0 c1 c2 c3 c4 u v : Value} {wr : World} (h : NobAt w kb sb c0 c1 c2 c3 c4 u v wr) :
    wr.cell? ⟨kb, 0, none⟩ = some c0 ∧ wr.cell? ⟨kb, 1, none⟩ = some c1 ∧ wr.cell? ⟨kb, 2, none⟩ = some c2 ∧ wr.cell? ⟨kb, 3, none⟩ = some c3 ∧ wr.cell? ⟨kb, 4, none⟩ = some c4 ∧ wr.cell? ⟨sb, 0, none⟩ = some u ∧ wr.cell? ⟨sb, 1, none⟩ = some v :=
  ⟨h.k.cell rfl, h.k.cell rfl, h.k.cell rfl, h.k.cell rfl, h.k.cell rfl, h.s.cell rfl, h.s.cell rfl⟩
theorem nob_begin (w : World) (k : Do) (bA kA : Option Addr) (bc kc : Nat) : NobAt w w.heap.size (w.heap.size + 1 + 1) (.int .i64 k.op) (.string ⟨k.name.toArray⟩) (.slice bA k.b.length bc) (.int .i64 k.n) (.slice kA k.keep.length kc) (.pointer none) (.pointer (some ⟨w.heap.size + 1, 0, none⟩))
    (((w.alloc (.cells #[.int .i64 k.op, .string ⟨k.name.toArray⟩, .slice bA k.b.length bc, .int .i64 k.n, .slice kA k.keep.length kc] 35)).alloc (.cells #[.int .i64 0, .map none, .map none, .slice none 0 0, .map none] 52)).alloc (.cells #[.pointer none, .pointer (some ⟨w.heap.size + 1, 0, none⟩)] 24)) := by
  have b1 := Blk.new (w.alloc (.cells #[.int .i64 k.op, .string ⟨k.name.toArray⟩, .slice bA k.b.length bc, .int .i64 k.n, .slice kA k.keep.length kc] 35)) 52 #[.int .i64 0, .map none, .map none, .slice none 0 0, .map none]
  have b2 := Blk.new ((w.alloc (.cells #[.int .i64 k.op, .string ⟨k.name.toArray⟩, .slice bA k.b.length bc, .int .i64 k.n, .slice kA k.keep.length kc] 35)).alloc (.cells #[.int .i64 0, .map none, .map none, .slice none 0 0, .map none] 52)) 24 #[.pointer none, .pointer (some ⟨w.heap.size + 1, 0, none⟩)]
  rw [World.size_alloc] at b1 b2
  rw [World.size_alloc] at b2
  exact ⟨(((Mod.refl _ w).alloc _).alloc _).alloc _, ((Blk.new w _ _).alloc _).alloc _, b2, .inl rfl, .inr ⟨_, rfl, (b1.alloc _).cell rfl⟩⟩

set_option maxRecDepth 100000 in
set_option maxHeartbeats 4000000 in
theorem nobody_walk (w : World) (k : Do) (bA kA : Option Addr) (bc kc : Nat) (hat : DoAt w.heap.size w k bA bc kA kc) :
    Calls Try.prog 6 #[.agg #[.int .i64 k.op, .string ⟨k.name.toArray⟩, .slice bA k.b.length bc, .int .i64 k.n, .slice kA k.keep.length kc]] w fun e w' => e = .returned (.bool true) ∧ Below w.heap.size w w' := by
  clear hat
  go_enter Try.func6, Try.ntmps6
  go_wp2_with fail
  have hb0 := nob_begin w k bA kA bc kc
  generalize ((w.alloc (.cells #[.int .i64 k.op, .string ⟨k.name.toArray⟩, .slice bA k.b.length bc, .int .i64 k.n, .slice kA k.keep.length kc] 35)).alloc (.cells #[.int .i64 0, .map none, .map none, .slice none 0 0, .map none] 52)).alloc (.cells #[.pointer none, .pointer (some ⟨w.heap.size + 1, 0, none⟩)] 24) = wr at *
  generalize hsb : w.heap.size + 1 + 1 = sb at *
  generalize hkb : w.heap.size = kb at *
  have HI0 := hid hb0
  obtain ⟨k1, k2, k3, k4, k5, k6, k7⟩ := hb0.cells
  have HB := hid (And.intro hsb hkb)
  clear hsb hkb hb0
  refine wp_loop_rounds 3 ?_
  rw [rounds_succ]
  go_wp2_with fail
  refine (read_no _ _ ⟨k.name.toArray⟩ HI0.out.nu).mono ?_
  rintro e w1 ⟨rfl, hm⟩
  have HI1 := hid (HI0.out.step hm)
  clear hm HI0 k1 k2 k3 k4 k5 k6 k7
  obtain ⟨k1, k2, k3, k4, k5, k6, k7⟩ := HI1.out.cells
  go_wp2_with fail
  refine (does_no _ _ k bA kA bc kc HI1.out.nu).mono ?_
  rintro e w1 ⟨rfl, hm⟩
  have HI2 := hid (HI1.out.step hm)
  clear hm HI1 k1 k2 k3 k4 k5 k6 k7
  obtain ⟨k1, k2, k3, k4, k5, k6, k7⟩ := HI2.out.cells
  go_wp2_with fail
  refine (flush_no _ _ HI2.out.nu).mono ?_
  rintro e w1 ⟨rfl, hm⟩
  have HI3 := hid (HI2.out.step hm)
  clear hm HI2 k1 k2 k3 k4 k5 k6 k7
  obtain ⟨k1, k2, k3, k4, k5, k6, k7⟩ := HI3.out.cells
  go_wp2_with fail
  refine (clone_no _ _ HI3.out.nu).mono ?_
  rintro e w1 ⟨rfl, hm⟩
  have HI4 := hid (HI3.out.step hm)
  clear hm HI3 k1 k2 k3 k4 k5 k6 k7
  obtain ⟨k1, k2, k3, k4, k5, k6, k7⟩ := HI4.out.cells
  go_wp2_with fail
  refine (list_no _ _ HI4.out.nu).mono ?_
  rintro e w1 ⟨rfl, hm⟩
  have HI5 := hid (HI4.out.step hm)
  clear hm HI4 k1 k2 k3 k4 k5 k6 k7
  obtain ⟨k1, k2, k3, k4, k5, k6, k7⟩ := HI5.out.cells
  go_wp2_with fail
  refine (pending_no _ _ HI5.out.nu).mono ?_
  rintro e w1 ⟨rfl, hm⟩
  have HI6 := hid (HI5.out.step hm)
  clear hm HI5 k1 k2 k3 k4 k5 k6 k7
  obtain ⟨k1, k2, k3, k4, k5, k6, k7⟩ := HI6.out.cells
  go_wp2_with fail
  refine (used_no _ _ HI6.out.nu).mono ?_
  rintro e w1 ⟨rfl, hm⟩
  have HI7 := hid (HI6.out.step hm)
  clear hm HI6 k1 k2 k3 k4 k5 k6 k7
  obtain ⟨k1, k2, k3, k4, k5, k6, k7⟩ := HI7.out.cells
  go_wp2_with fail
  refine (room_no _ _ HI7.out.nu).mono ?_
  rintro e w1 ⟨rfl, hm⟩
  have HI8 := hid (HI7.out.step hm)
  clear hm HI7 k1 k2 k3 k4 k5 k6 k7
  obtain ⟨k1, k2, k3, k4, k5, k6, k7⟩ := HI8.out.cells
  go_wp2_with fail
  rw [rounds_succ]
  go_wp2_with fail
  refine (read_no _ _ ⟨k.name.toArray⟩ HI8.out.nv).mono ?_
  rintro e w1 ⟨rfl, hm⟩
  have HI9 := hid (HI8.out.step hm)
  clear hm HI8 k1 k2 k3 k4 k5 k6 k7
  obtain ⟨k1, k2, k3, k4, k5, k6, k7⟩ := HI9.out.cells
  go_wp2_with fail
  refine (does_no _ _ k bA kA bc kc HI9.out.nv).mono ?_
  rintro e w1 ⟨rfl, hm⟩
  have HI10 := hid (HI9.out.step hm)
  clear hm HI9 k1 k2 k3 k4 k5 k6 k7
  obtain ⟨k1, k2, k3, k4, k5, k6, k7⟩ := HI10.out.cells
  go_wp2_with fail
  refine (flush_no _ _ HI10.out.nv).mono ?_
  rintro e w1 ⟨rfl, hm⟩
  have HI11 := hid (HI10.out.step hm)
  clear hm HI10 k1 k2 k3 k4 k5 k6 k7
  obtain ⟨k1, k2, k3, k4, k5, k6, k7⟩ := HI11.out.cells
  go_wp2_with fail
  refine (clone_no _ _ HI11.out.nv).mono ?_
  rintro e w1 ⟨rfl, hm⟩
  have HI12 := hid (HI11.out.step hm)
  clear hm HI11 k1 k2 k3 k4 k5 k6 k7
  obtain ⟨k1, k2, k3, k4, k5, k6, k7⟩ := HI12.out.cells
  go_wp2_with fail
  refine (list_no _ _ HI12.out.nv).mono ?_
  rintro e w1 ⟨rfl, hm⟩
  have HI13 := hid (HI12.out.step hm)
  clear hm HI12 k1 k2 k3 k4 k5 k6 k7
  obtain ⟨k1, k2, k3, k4, k5, k6, k7⟩ := HI13.out.cells
  go_wp2_with fail
  refine (pending_no _ _ HI13.out.nv).mono ?_
  rintro e w1 ⟨rfl, hm⟩
  have HI14 := hid (HI13.out.step hm)
  clear hm HI13 k1 k2 k3 k4 k5 k6 k7
  obtain ⟨k1, k2, k3, k4, k5, k6, k7⟩ := HI14.out.cells
  go_wp2_with fail
  refine (used_no _ _ HI14.out.nv).mono ?_
  rintro e w1 ⟨rfl, hm⟩
  have HI15 := hid (HI14.out.step hm)
  clear hm HI14 k1 k2 k3 k4 k5 k6 k7
  obtain ⟨k1, k2, k3, k4, k5, k6, k7⟩ := HI15.out.cells
  go_wp2_with fail
  refine (room_no _ _ HI15.out.nv).mono ?_
  rintro e w1 ⟨rfl, hm⟩
  have HI16 := hid (HI15.out.step hm)
  clear hm HI15 k1 k2 k3 k4 k5 k6 k7
  obtain ⟨k1, k2, k3, k4, k5, k6, k7⟩ := HI16.out.cells
  go_wp2_with fail
  rw [rounds_succ]
  go_wp2_with fail
  refine (awake_any _).mono ?_
  rintro e w1 ⟨rfl, hm⟩
  obtain ⟨-, rfl⟩ := HB.out
  go_wp2_with fail
  go_ret
  exact ⟨rfl, (HI16.out.mod.trans' hm).below (Nat.le_refl _) (fun _ _ h => h)⟩
end Go.Proofs.Ytkednbkildkkmaa
