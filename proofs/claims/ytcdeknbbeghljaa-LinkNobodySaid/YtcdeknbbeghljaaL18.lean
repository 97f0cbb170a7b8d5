/- LinkNobody: the walk. -/
import Derived.Test.YtcdeknbbeghljaaL17
import Derived.Deep.CutBlock
import Derived.Deep.DeepCutAuto
import Derived.Deep.RegionLaw
import Derived.BigQuiet
namespace Go.Proofs.Ytcdeknbbeghljaa
open Go.RowKit
open Link

structure NobAt (w : World) (kb sb : Nat) (d : Do) (u v x : Value) (wr : World) : Prop where
  mod : Mod (fun _ => False) w wr
  k : Blk wr kb 33 #[.int .i64 d.op, .int .i64 d.id, .int .i64 d.a, .int .i64 d.b, x]
  s : Blk wr sb 25 #[u, v]
  nu : NotMade u wr
  nv : NotMade v wr
theorem NobAt.step {w : World} {kb sb : Nat} {d : Do} {u v x : Value} {wr w' : World} (h : NobAt w kb sb d u v x wr) (hm : Mod (fun _ => False) wr w') : NobAt w kb sb d u v x w' :=
  ⟨h.mod.trans' hm, h.k.mod hm (fun h => h), h.s.mod hm (fun h => h), h.nu.step hm, h.nv.step hm⟩
theorem NobAt.cells {w : World} {kb sb : Nat} {d : Do} {u v x : Value} {wr : World} (h : NobAt w kb sb d u v x wr) :
    wr.cell? ⟨kb, 1, none⟩ = some (.int .i64 d.id) ∧ wr.cell? ⟨kb, 2, none⟩ = some (.int .i64 d.a) ∧ wr.cell? ⟨kb, 3, none⟩ = some (.int .i64 d.b) ∧ wr.cell? ⟨sb, 0, none⟩ = some u ∧ wr.cell? ⟨sb, 1, none⟩ = some v :=
  ⟨h.k.cell rfl, h.k.cell rfl, h.k.cell rfl, h.s.cell rfl, h.s.cell rfl⟩

theorem nob_begin (w : World) (d : Do) (x : Value) : NobAt w w.heap.size (w.heap.size + 1 + 1) d (.pointer none) (.pointer (some ⟨w.heap.size + 1, 0, none⟩)) x
    (((w.alloc (.cells #[.int .i64 d.op, .int .i64 d.id, .int .i64 d.a, .int .i64 d.b, x] 33)).alloc (.cells #[.map none, .int .i64 0] 48)).alloc (.cells #[.pointer none, .pointer (some ⟨w.heap.size + 1, 0, none⟩)] 25)) := by
  have b1 := Blk.new (w.alloc (.cells #[.int .i64 d.op, .int .i64 d.id, .int .i64 d.a, .int .i64 d.b, x] 33)) 48 #[.map none, .int .i64 0]
  have b2 := Blk.new ((w.alloc (.cells #[.int .i64 d.op, .int .i64 d.id, .int .i64 d.a, .int .i64 d.b, x] 33)).alloc (.cells #[.map none, .int .i64 0] 48)) 25 #[.pointer none, .pointer (some ⟨w.heap.size + 1, 0, none⟩)]
  rw [World.size_alloc] at b1 b2
  rw [World.size_alloc] at b2
  exact ⟨(((Mod.refl _ w).alloc _).alloc _).alloc _, ((Blk.new w _ _).alloc _).alloc _, b2, .inl rfl, .inr ⟨_, rfl, (b1.alloc _).cell rfl⟩⟩

set_option maxRecDepth 100000 in
set_option maxHeartbeats 4000000 in
theorem nobody_walk (w : World) (d : Do) (bA : Option Addr) (bc : Nat) :
    Calls Try.prog 6 #[.agg #[.int .i64 d.op, .int .i64 d.id, .int .i64 d.a, .int .i64 d.b, .slice bA d.bytes.length bc]] w fun e w' => e = .returned (.bool true) ∧ Below w.heap.size w w' := by
  go_enter Try.func6, Try.ntmps6
  go_wp2_with fail
  have hb0 := nob_begin w d (.slice bA d.bytes.length bc)
  generalize ((w.alloc (.cells #[.int .i64 d.op, .int .i64 d.id, .int .i64 d.a, .int .i64 d.b, .slice bA d.bytes.length bc] 33)).alloc (.cells #[.map none, .int .i64 0] 48)).alloc (.cells #[.pointer none, .pointer (some ⟨w.heap.size + 1, 0, none⟩)] 25) = wr at *
  generalize hsb : w.heap.size + 1 + 1 = sb at *
  generalize hkb : w.heap.size = kb at *
  have HI0 := hid hb0
  obtain ⟨k1, k2, k3, k4, k5⟩ := hb0.cells
  have HB := hid (And.intro hsb hkb)
  clear hsb hkb hb0
  refine wp_loop_rounds 3 ?_
  rw [rounds_succ]
  go_wp2_with fail
  refine (dial_no _ _ 0 1 HI0.out.nu).mono ?_
  rintro e w1 ⟨rfl, hm⟩
  have HI1 := hid (HI0.out.step hm)
  clear hm HI0 k1 k2 k3 k4 k5
  obtain ⟨k1, k2, k3, k4, k5⟩ := HI1.out.cells
  go_wp2_with fail
  refine (carry_no _ _ d.id d.a d.b HI1.out.nu).mono ?_
  rintro e w1 ⟨rfl, hm⟩
  have HI2 := hid (HI1.out.step hm)
  clear hm HI1 k1 k2 k3 k4 k5
  obtain ⟨k1, k2, k3, k4, k5⟩ := HI2.out.cells
  go_wp2_with fail
  refine (ends_no _ _ d.id HI2.out.nu).mono ?_
  rintro e w1 ⟨rfl, hm⟩
  have HI3 := hid (HI2.out.step hm)
  clear hm HI2 k1 k2 k3 k4 k5
  obtain ⟨k1, k2, k3, k4, k5⟩ := HI3.out.cells
  go_wp2_with fail
  refine (waiting_no _ _ d.id d.a HI3.out.nu).mono ?_
  rintro e w1 ⟨rfl, hm⟩
  have HI4 := hid (HI3.out.step hm)
  clear hm HI3 k1 k2 k3 k4 k5
  obtain ⟨k1, k2, k3, k4, k5⟩ := HI4.out.cells
  go_wp2_with fail
  refine (send_no _ _ d.id d.a _ HI4.out.nu).mono ?_
  rintro e w1 ⟨rfl, hm⟩
  have HI5 := hid (HI4.out.step hm)
  clear hm HI4 k1 k2 k3 k4 k5
  obtain ⟨k1, k2, k3, k4, k5⟩ := HI5.out.cells
  go_wp2_with fail
  refine (close_no _ _ d.id d.a HI5.out.nu).mono ?_
  rintro e w1 ⟨rfl, hm⟩
  have HI6 := hid (HI5.out.step hm)
  clear hm HI5 k1 k2 k3 k4 k5
  obtain ⟨k1, k2, k3, k4, k5⟩ := HI6.out.cells
  go_wp2_with fail
  refine (cut_no _ _ d.id HI6.out.nu).mono ?_
  rintro e w1 ⟨rfl, hm⟩
  have HI7 := hid (HI6.out.step hm)
  clear hm HI6 k1 k2 k3 k4 k5
  obtain ⟨k1, k2, k3, k4, k5⟩ := HI7.out.cells
  go_wp2_with fail
  refine (drop_no _ _ d.a HI7.out.nu).mono ?_
  rintro e w1 ⟨rfl, hm⟩
  have HI8 := hid (HI7.out.step hm)
  clear hm HI7 k1 k2 k3 k4 k5
  obtain ⟨k1, k2, k3, k4, k5⟩ := HI8.out.cells
  go_wp2_with fail
  refine (done_no _ _ d.id d.a HI8.out.nu).mono ?_
  rintro e w1 ⟨rfl, hm⟩
  have HI9 := hid (HI8.out.step hm)
  clear hm HI8 k1 k2 k3 k4 k5
  obtain ⟨k1, k2, k3, k4, k5⟩ := HI9.out.cells
  go_wp2_with fail
  refine (conns_no _ _ HI9.out.nu).mono ?_
  rintro e w1 ⟨rfl, hm⟩
  have HI10 := hid (HI9.out.step hm)
  clear hm HI9 k1 k2 k3 k4 k5
  obtain ⟨k1, k2, k3, k4, k5⟩ := HI10.out.cells
  go_wp2_with fail
  rw [rounds_succ]
  go_wp2_with fail
  refine (dial_no _ _ 0 1 HI10.out.nv).mono ?_
  rintro e w1 ⟨rfl, hm⟩
  have HI11 := hid (HI10.out.step hm)
  clear hm HI10 k1 k2 k3 k4 k5
  obtain ⟨k1, k2, k3, k4, k5⟩ := HI11.out.cells
  go_wp2_with fail
  refine (carry_no _ _ d.id d.a d.b HI11.out.nv).mono ?_
  rintro e w1 ⟨rfl, hm⟩
  have HI12 := hid (HI11.out.step hm)
  clear hm HI11 k1 k2 k3 k4 k5
  obtain ⟨k1, k2, k3, k4, k5⟩ := HI12.out.cells
  go_wp2_with fail
  refine (ends_no _ _ d.id HI12.out.nv).mono ?_
  rintro e w1 ⟨rfl, hm⟩
  have HI13 := hid (HI12.out.step hm)
  clear hm HI12 k1 k2 k3 k4 k5
  obtain ⟨k1, k2, k3, k4, k5⟩ := HI13.out.cells
  go_wp2_with fail
  refine (waiting_no _ _ d.id d.a HI13.out.nv).mono ?_
  rintro e w1 ⟨rfl, hm⟩
  have HI14 := hid (HI13.out.step hm)
  clear hm HI13 k1 k2 k3 k4 k5
  obtain ⟨k1, k2, k3, k4, k5⟩ := HI14.out.cells
  go_wp2_with fail
  refine (send_no _ _ d.id d.a _ HI14.out.nv).mono ?_
  rintro e w1 ⟨rfl, hm⟩
  have HI15 := hid (HI14.out.step hm)
  clear hm HI14 k1 k2 k3 k4 k5
  obtain ⟨k1, k2, k3, k4, k5⟩ := HI15.out.cells
  go_wp2_with fail
  refine (close_no _ _ d.id d.a HI15.out.nv).mono ?_
  rintro e w1 ⟨rfl, hm⟩
  have HI16 := hid (HI15.out.step hm)
  clear hm HI15 k1 k2 k3 k4 k5
  obtain ⟨k1, k2, k3, k4, k5⟩ := HI16.out.cells
  go_wp2_with fail
  refine (cut_no _ _ d.id HI16.out.nv).mono ?_
  rintro e w1 ⟨rfl, hm⟩
  have HI17 := hid (HI16.out.step hm)
  clear hm HI16 k1 k2 k3 k4 k5
  obtain ⟨k1, k2, k3, k4, k5⟩ := HI17.out.cells
  go_wp2_with fail
  refine (drop_no _ _ d.a HI17.out.nv).mono ?_
  rintro e w1 ⟨rfl, hm⟩
  have HI18 := hid (HI17.out.step hm)
  clear hm HI17 k1 k2 k3 k4 k5
  obtain ⟨k1, k2, k3, k4, k5⟩ := HI18.out.cells
  go_wp2_with fail
  refine (done_no _ _ d.id d.a HI18.out.nv).mono ?_
  rintro e w1 ⟨rfl, hm⟩
  have HI19 := hid (HI18.out.step hm)
  clear hm HI18 k1 k2 k3 k4 k5
  obtain ⟨k1, k2, k3, k4, k5⟩ := HI19.out.cells
  go_wp2_with fail
  refine (conns_no _ _ HI19.out.nv).mono ?_
  rintro e w1 ⟨rfl, hm⟩
  have HI20 := hid (HI19.out.step hm)
  clear hm HI19 k1 k2 k3 k4 k5
  obtain ⟨k1, k2, k3, k4, k5⟩ := HI20.out.cells
  go_wp2_with fail
  rw [rounds_succ]
  go_wp2_with fail
  refine (awake_any _).mono ?_
  rintro e w1 ⟨rfl, hm⟩
  obtain ⟨-, rfl⟩ := HB.out
  go_wp2_with fail
  go_ret
  exact ⟨rfl, (HI20.out.mod.trans' hm).below (Nat.le_refl _) (fun _ _ h => h)⟩
end Go.Proofs.Ytcdeknbbeghljaa
