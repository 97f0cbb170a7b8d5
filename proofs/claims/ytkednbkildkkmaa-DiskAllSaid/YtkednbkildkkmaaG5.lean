/- disk: awake. -/
import Derived.Test.YtkednbkildkkmaaG4
namespace Go.Proofs.Ytkednbkildkkmaa
open Go.RowKit
open Disk

def aw0 : Dk := Dk.empty 100
def aw1 : Dk := (aw0.write [97] [120, 121]).1
def aw2 : Dk := (aw1.sync [97]).1
def aw3 : Dk := (aw2.write [97] [122]).1
def aw4 : Dk := (aw3.write [97] [119]).1
def aw5 : Dk := aw4.crash [false, true] 0
def aw6 : Dk := aw4.crash [] 0
theorem aw0_ok : aw0.Ok := empty_ok (by decide)
theorem aw1_ok : aw1.Ok := aw0_ok.write _ _
theorem aw2_ok : aw2.Ok := aw1_ok.sync _
theorem aw3_ok : aw3.Ok := aw2_ok.write _ _
theorem aw4_ok : aw4.Ok := aw3_ok.write _ _
theorem aw5_ok : aw5.Ok := aw4_ok.crash _ _
theorem aw6_ok : aw6.Ok := aw4_ok.crash _ _
theorem aw_e1 : aw0.write [97] [120, 121] = (aw1, 0) := by unfold aw1; rfl
theorem aw_e2 : aw1.sync [97] = (aw2, 0) := by unfold aw2; rfl
theorem aw_e3 : aw2.write [97] [122] = (aw3, 0) := by unfold aw3; rfl
theorem aw_e4 : aw3.write [97] [119] = (aw4, 0) := by unfold aw4; rfl
theorem aw_p4 : aw4.pending.length = 2 := rfl
theorem aw_r5 : aw5.read [97] = ([120, 121, 0, 119], 0) := rfl
theorem aw_r6 : aw6.read [97] = ([120, 121], 0) := rfl

/-- an object that lies somewhere. -/
def rObj (b : Nat) (o : Obj) : Res := ⟨fun w F => w.heap[b]? = some o ∧ F = [b], fun ⟨h, e⟩ hk => ⟨(hk b (by rw [e]; simp)).trans h, e⟩, fun {w F} ⟨h, e⟩ k hk => by rw [e] at hk; simp at hk; rw [hk]; exact lt_of_heap h⟩
theorem Held.objnew {w0 w : World} {B : List Res} (h : Held w0 w B) (o : Obj) : Held w0 (w.alloc o) (rObj w.heap.size o :: B) :=
  h.more (F := [w.heap.size]) ⟨heap_alloc_new w o, rfl⟩ ⟨(Mod.refl _ w).alloc _, by simp, fun b hb => .inr (by simp at hb; omega)⟩
theorem src_obj {w0 : World} {B : List Res} {g : Nat} {t : TypeId} {cs : Array Value} {fz : Nat × Nat} {xs : List Value} (hx : cs = xs.toArray) {n : Nat} (hn : xs.length = n) (hm : n ≤ 9223372036854775807) : Src w0 [] (rObj g (.cells cs t fz) :: B) (.slice (some ⟨g, 0, none⟩) n n) xs := by
  intro w' M h
  obtain ⟨F, hF, -⟩ := Held.get (l1 := M) h
  subst hx hn
  refine ⟨_, xs.length, rfl, Nat.le_refl _, by unfold maxLen; exact hm, fun _ => ⟨g, 0, rfl, trivial, fun k u hu => ?_⟩⟩
  unfold World.cell?
  simp only [Nat.zero_add]
  rw [hF]
  simpa using hu
/-- the cells of a block, as a slice. -/
theorem Blk.rd {w : World} {g : Nat} {t : TypeId} {cs : Array Value} (h : Blk w g t cs) {xs : List Value} (hx : cs = xs.toArray) {n : Nat} (hn : xs.length = n) (hm : n ≤ 9223372036854775807) : Rd (fun _ => True) w (.slice (some ⟨g, 0, none⟩) n n) xs := by
  subst hx hn
  refine ⟨_, xs.length, rfl, Nat.le_refl _, by unfold maxLen; exact hm, fun _ => ⟨g, 0, rfl, trivial, fun k u hu => ?_⟩⟩
  rw [Nat.zero_add]
  exact h.cell (by simpa using hu)
theorem src_blk {w0 : World} {B : List Res} {g : Nat} {t : TypeId} {cs : Array Value} {xs : List Value} (hx : cs = xs.toArray) {n : Nat} (hn : xs.length = n) (hm : n ≤ 9223372036854775807) : Src w0 [] (rBlk g t cs :: B) (.slice (some ⟨g, 0, none⟩) n n) xs :=
  fun w' M h => (Held.blk (l1 := M) h).rd hx hn hm

set_option maxRecDepth 100000 in
set_option maxHeartbeats 4000000 in
/-- awake: the law's example that must go through. -/
theorem awake_any (w : World) : Calls Try.prog 15 #[] w fun e w' => e = .returned (.bool true) ∧ Mod (fun _ => False) w w' := by
  have HN := hid (new_held (Held.begin w) 100 (by decide))
  have kc := fun (w : World) (C : Array Value) (n c : Nat) => Lib.run_convert_bytes_const (P := Try.prog) w 31 5 C n c Try.underlying31 Try.underlying5
  go_enter Try.func15, Try.ntmps15
  go_wp2_with fail
  refine HN.out.mono ?_
  rintro e w1 ⟨p, rfl, g1⟩
  have g2 := (g1.objnew (.cells #[.int .u8 120, .int .u8 121] 5 (2, 3))).pull1
  have C1 := hid (write_held g2 aw0_ok (by decide) [97] (by decide) [120, 121] (some ⟨w1.heap.size, 0, none⟩) 2 (src_obj rfl rfl (by decide)) (by decide))
  rw [show (Dk.empty 100).write [97] [120, 121] = (aw1, 0) from aw_e1] at C1
  unfold sv at C1
  simp only [List.length_cons, List.length_nil] at C1
  clear g1 g2
  go_wp2_with fail
  refine C1.out.mono ?_
  rintro e w2 ⟨rfl, g1⟩
  have C2 := hid (sync_held g1 aw1_ok (by decide) [97] (by decide))
  rw [aw_e2] at C2
  unfold sv at C2
  clear g1 C1
  go_wp2_with fail
  refine C2.out.mono ?_
  rintro e w3 ⟨rfl, g1⟩
  have g2 := (g1.objnew (.cells #[.int .u8 122] 5 (1, 2))).pull1
  have C3 := hid (write_held g2 aw2_ok (by decide) [97] (by decide) [122] (some ⟨w3.heap.size, 0, none⟩) 1 (src_obj rfl rfl (by decide)) (by decide))
  rw [aw_e3] at C3
  unfold sv at C3
  simp only [List.length_cons, List.length_nil] at C3
  clear g1 g2 C2
  go_wp2_with fail
  refine C3.out.mono ?_
  rintro e w4 ⟨rfl, g1⟩
  have g2 := (g1.objnew (.cells #[.int .u8 119] 5 (1, 2))).pull1
  have C4 := hid (write_held g2 aw3_ok (by decide) [97] (by decide) [119] (some ⟨w4.heap.size, 0, none⟩) 1 (src_obj rfl rfl (by decide)) (by decide))
  rw [aw_e4] at C4
  unfold sv at C4
  simp only [List.length_cons, List.length_nil] at C4
  clear g1 g2 C3
  go_wp2_with fail
  refine C4.out.mono ?_
  rintro e w5 ⟨rfl, g1⟩
  have C5 := hid (clone_disk g1 aw4_ok (by decide))
  clear g1 C4
  go_wp2_with fail
  refine C5.out.mono ?_
  rintro e w6 ⟨q, rfl, g1⟩
  have C6 := hid (pending_held g1.pull1)
  rw [aw_p4] at C6
  have G6 := hid g1
  clear g1 C5
  go_wp2_with fail
  refine C6.out.mono ?_
  rintro e w7 ⟨rfl, rfl⟩
  have g2 := (G6.out.block 4 #[.bool false, .bool true]).pull2
  -- disk p, blk, disk q
  have C7 := hid (crash_held (B := rBlk w6.heap.size 4 #[.bool false, .bool true] :: _) g2 aw4_ok (by decide) [false, true] (some ⟨w6.heap.size, 0, none⟩) 2 (src_blk rfl rfl (by decide)) 0)
  simp only [List.length_cons, List.length_nil] at C7
  clear g2 C6
  go_wp2_with fail
  refine C7.out.mono ?_
  rintro e w8 ⟨rfl, g1⟩
  -- disk p, blk, disk q
  have C8 := hid (crash_held g1.pull2 aw4_ok (by decide) [] none 0 (fun _ _ _ => Rd.nil _ _) 0)
  simp only [List.length_nil] at C8
  clear g1 C7
  go_wp2_with fail
  refine C8.out.mono ?_
  rintro e w9 ⟨rfl, g1⟩
  -- disk q, disk p
  have C9 := hid (read_held g1.pull1 aw5_ok [97] (by decide))
  rw [show (aw4.crash [false, true] 0).read [97] = _ from aw_r5] at C9
  unfold sv at C9
  clear g1 C8
  go_wp2_with fail
  refine C9.out.mono ?_
  rintro e w10 ⟨v1, rfl, g1⟩
  have C10 := hid (read_held (g1.pull2) aw6_ok [97] (by decide))
  rw [show (aw4.crash [] 0).read [97] = _ from aw_r6] at C10
  unfold sv at C10
  clear g1 C9
  go_wp2_with fail
  refine C10.out.mono ?_
  rintro e w11 ⟨v2, rfl, g1⟩
  have h2 := run_bytes_string (P := Try.prog) (dst := 9) Try.underlying31 Try.underlying5 Try.underlying9 (Held.bytes (l1 := []) g1)
  have h1 := run_bytes_string (P := Try.prog) (dst := 9) Try.underlying31 Try.underlying5 Try.underlying9 (Held.bytes (l1 := []) (g1.pull2))
  have HM := hid g1.mod
  clear g1 C10
  go_wp2
  go_ret
  exact ⟨rfl, HM.out⟩
end Go.Proofs.Ytkednbkildkkmaa
