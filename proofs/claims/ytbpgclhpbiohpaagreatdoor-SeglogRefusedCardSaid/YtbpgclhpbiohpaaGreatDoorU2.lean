/- seglog's laws: awake. -/
import Derived.Test.YtbpgclhpbiohpaaGreatDoorU1
namespace Go.Proofs.YtbpgclhpbiohpaaGreatDoor
open Go.RowKit
open Slog (Seg recsOf nameB Lg)
open Disk (Dk)

/-- an object that lies somewhere. -/
def rObj (b : Nat) (o : Obj) : Res := ⟨fun w F => w.heap[b]? = some o ∧ F = [b], fun ⟨h, e⟩ hk => ⟨(hk b (by rw [e]; simp)).trans h, e⟩, fun {w F} ⟨h, e⟩ k hk => by rw [e] at hk; simp at hk; rw [hk]; exact lt_of_heap h⟩
theorem Held.objnew {w0 w : World} {B : List Res} (h : Held w0 w B) (o : Obj) : Held w0 (w.alloc o) (rObj w.heap.size o :: B) :=
  h.more (F := [w.heap.size]) ⟨heap_alloc_new w o, rfl⟩ ⟨(Mod.refl _ w).alloc _, by simp, fun b hb => .inr (by simp at hb; omega)⟩
theorem srcR_obj {w0 : World} {g : Nat} {t : TypeId} {cs : Array Value} {fz : Nat × Nat} {xs : List Value} (hx : cs = xs.toArray) {n : Nat} (hn : xs.length = n) (hm : n ≤ 9223372036854775807) : SrcR w0 (rObj g (.cells cs t fz)) (.slice (some ⟨g, 0, none⟩) n n) xs := by
  intro w' M N h
  obtain ⟨F, hF, -⟩ := Held.get (l1 := M) h
  subst hx hn
  refine ⟨_, xs.length, rfl, Nat.le_refl _, by unfold maxLen; exact hm, fun _ => ⟨g, 0, rfl, trivial, fun k u hu => ?_⟩⟩
  unfold World.cell?
  simp only [Nat.zero_add]
  rw [hF]
  simpa using hu
/-- the cells of a block, as a slice. -/
theorem Blk.rd {w : World} {g : Nat} {t : TypeId} {cs : Array Value} (h : Blk w g t cs) {xs : List Value} (hx : cs = xs.toArray) {n : Nat} (hn : xs.length = n) (hm : n ≤ 9223372036854775807) : Rd (fun _ => True) w (.slice (some ⟨g, 0, none⟩) n n) xs := by
  subst hx hn
  refine ⟨_, xs.length, rfl, Nat.le_refl _, by unfold maxLen; exact hm, fun _ => ⟨g, 0, rfl, trivial, fun k u hu => ?_⟩⟩
  rw [Nat.zero_add]
  exact h.cell (by simpa using hu)
theorem src_blk {w0 : World} {B : List Res} {g : Nat} {t : TypeId} {cs : Array Value} {xs : List Value} (hx : cs = xs.toArray) {n : Nat} (hn : xs.length = n) (hm : n ≤ 9223372036854775807) : Src w0 [] (rBlk g t cs :: B) (.slice (some ⟨g, 0, none⟩) n n) xs :=
  fun _ M h => (Held.blk (l1 := M) h).rd hx hn hm

theorem lnext_any (w : World) (q p next : Nat) (c0 : w.cell? ⟨q, 0, none⟩ = some (.pointer (some ⟨p, 0, none⟩))) (c3 : w.cell? ⟨q, 3, none⟩ = some (.int .i64 next)) :
    Calls Tryz.prog 16 #[.pointer (some ⟨q, 0, none⟩)] w fun e w' => e = .returned (.int .i64 next) ∧ w' = w := by
  have HM := hid (lmade_any w q p c0)
  go_enter Tryz.func16, Tryz.ntmps16
  go_wp2_with (first | (go_at_call 35; refine HM.out.mono ?_; rintro e w' ⟨rfl, rfl⟩))
  go_ret
  exact ⟨rfl, rfl⟩
theorem aw_read : readFrom 1 (recsOf [((1 : Nat), [([97] : List UInt8)])]) 1 = [[97]] := by kernel_rfl

set_option maxRecDepth 100000 in
set_option maxHeartbeats 4000000 in
/-- awake: the laws' example that must go through. -/
theorem awake_any (w : World) : Calls Tryz.prog 20 #[] w fun e w' => e = .returned (.bool true) ∧ Mod (fun _ => False) w w' := by
  have HN := hid (begun_held (Held.begin w) 1000 (by decide))
  have kc := fun (w : World) (C : Array Value) (n c : Nat) => Lib.run_convert_bytes_const (P := Tryz.prog) w 22 5 C n c Tryz.underlying22 Tryz.underlying5
  go_enter Tryz.func20, Tryz.ntmps20
  go_wp2_with fail
  refine HN.out.mono ?_
  rintro e w1 ⟨p, q, rfl, g1⟩
  -- log, disk
  have G1 := hid ((g1.objnew (.cells #[.int .u8 97] 5 (1, 2))).push2)
  have C1 := hid (lappend_held (l := Slog.al0) (d := Slog.ad0) (r := [97]) (srcR_obj rfl rfl (by decide)) G1.out Slog.a0_good (by decide) (by decide))
  rw [show Slog.append Slog.ad0 Slog.al0 [97] = Slog.as1 from rfl, show Slog.as1.2.2.1 = 1 from rfl, show Slog.as1.2.2.2 = 0 from rfl] at C1
  clear g1 G1
  go_wp2_with fail
  refine C1.out.mono ?_
  rintro e w2 ⟨rfl, g1⟩
  have C2 := hid (lsync_held (l := Slog.as1.2.1) (d := Slog.as1.1) g1 Slog.a1_good (by decide))
  rw [show Slog.sync Slog.as1.1 Slog.as1.2.1 = Slog.as2 from rfl] at C2
  clear g1 C1
  go_wp2_with fail
  refine C2.out.mono ?_
  rintro e w3 ⟨rfl, g1⟩
  have G1 := hid ((g1.objnew (.cells #[.int .u8 98] 5 (1, 2))).push2)
  have C3 := hid (lappend_held (l := Slog.as2.2.1) (d := Slog.as2.1) (r := [98]) (srcR_obj rfl rfl (by decide)) G1.out Slog.a2_good (by rw [Slog.a2_next]; decide) (by decide))
  rw [show Slog.append Slog.as2.1 Slog.as2.2.1 [98] = Slog.as3 from rfl] at C3
  clear g1 G1 C2
  go_wp2_with fail
  refine C3.out.mono ?_
  rintro e w4 ⟨rfl, g1⟩
  have G1 := hid ((g1.objnew (.cells #[.int .u8 99] 5 (1, 2))).push2)
  have C4 := hid (lappend_held (l := Slog.as3.2.1) (d := Slog.as3.1) (r := [99]) (srcR_obj rfl rfl (by decide)) G1.out Slog.a3_good (by rw [Slog.a3_next]; decide) (by decide))
  rw [show Slog.append Slog.as3.1 Slog.as3.2.1 [99] = Slog.as4 from rfl] at C4
  clear g1 G1 C3
  go_wp2_with fail
  refine C4.out.mono ?_
  rintro e w5 ⟨rfl, g1⟩
  have G1 := hid ((g1.block 4 #[.bool false, .bool true]).pull2)
  have C5 := hid (crash_held (B := rBlk w5.heap.size 4 #[.bool false, .bool true] :: _) G1.out Slog.a4_good.ok (by have := Slog.a4_good.pend_len; omega) [false, true] (some ⟨w5.heap.size, 0, none⟩) 2 (src_blk rfl rfl (by decide)) 0)
  rw [show Slog.as4.1.crash [false, true] 0 = Slog.ad5 from rfl] at C5
  simp only [List.length_cons, List.length_nil] at C5
  clear g1 G1 C4
  go_wp2_with fail
  refine C5.out.mono ?_
  rintro e w6 ⟨rfl, g1⟩
  have C6 := hid (open_held g1 Slog.a5_left (k := 1) (n := 2) ⟨rfl, rfl⟩ ⟨Nat.le_refl _, fun h => by cases h⟩ (fun ls s e t ht => by
    cases ls with
    | nil => cases ht
    | cons a b => have := congrArg List.length e; simp at this) (by decide) (by decide) Slog.a5_pend)
  clear g1 C5
  go_wp2_with fail
  refine C6.out.mono ?_
  rintro e w7 ⟨q2, rfl, g1⟩
  have C7 := hid (lread_held g1 (by decide) (by decide) (by decide) 1)
  rw [show readFrom (2 - (recsOf [((1 : Nat), [([97] : List UInt8)])]).length) (recsOf [((1 : Nat), [([97] : List UInt8)])]) 1 = [[97]] from aw_read] at C7
  clear g1 C6
  go_wp2_with fail
  refine C7.out.mono ?_
  rintro e w8 ⟨v, rfl, g1⟩
  obtain ⟨b, off, c, u, rfl, hcell, hr⟩ := g1.recs_get (k := 0) (by decide)
  obtain ⟨sA, sc, rA, rc, h2, h3, h4, h5, c0, c1, c2, c3⟩ := g1.pull1.lseen
  have C8 := hid (lfirst_any w8 q2 p 2 _ rc rA c0 c2 c3 (by decide) (by decide))
  have C9 := hid (fun j => lnext_any (w8.drewN j) q2 p 2 c0 c3)
  have HR := hid hr
  have hstr := fun j => run_bytes_string (P := Tryz.prog) (dst := 9) Tryz.underlying22 Tryz.underlying5 Tryz.underlying9 (HR.out.drewN j)
  have HM := hid g1.mod
  obtain ⟨uA, uc, rfl, -⟩ := id hr
  rw [bytesV_length] at hstr hcell
  have hcell0 : w8.cell? ⟨b, off, none⟩ = some (.slice uA 1 uc) := hcell
  have hstr2 : ∀ j, (convert 22 9 (.slice uA 1 uc)).run Tryz.prog (w8.drewN j) = .ok (.string ⟨#[97]⟩) (w8.drewN j) := hstr
  rw [show (recsOf [((1 : Nat), [([97] : List UInt8)])]).length = 1 from rfl] at C8
  clear g1 hr c0 c1 c2 c3 h2 h3 h4 h5 C7 hcell HR hstr
  go_wp2_with (first
    | (go_at_call 15; refine C8.out.mono ?_; rintro e w9 ⟨rfl, j, rfl⟩)
    | (go_at_call 16; refine (C9.out _).mono ?_; rintro e w10 ⟨rfl, rfl⟩))
  go_ret
  exact ⟨rfl, HM.out.drewN j⟩
end Go.Proofs.YtbpgclhpbiohpaaGreatDoor
