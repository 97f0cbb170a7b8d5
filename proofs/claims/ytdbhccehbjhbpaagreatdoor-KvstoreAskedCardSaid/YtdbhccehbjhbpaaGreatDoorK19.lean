/- kvstore's laws: awake. -/
import Derived.Test.YtdbhccehbjhbpaaGreatDoorK18
import Derived.Test.YtdbhccehbjhbpaaGreatDoorK16
import Derived.Test.YtdbhccehbjhbpaaGreatDoorK12

namespace Go.Proofs.YtdbhccehbjhbpaaGreatDoor
open Go.RowKit
open Disk (Dk Dict)
open Slog (Seg recsOf Lg)
open Kv (It KOp Items)

/-- one op in a block. -/
theorem opsR_blk1 {w0 : World} {B : List Res} {g : Nat} (o : KOp) (h1 : o.key.length ≤ 9223372036854775807) (h2 : o.value.length ≤ 9223372036854775807) :
    OpsR w0 (rBlk g 55 #[.string ⟨o.key.toArray⟩, .bool o.gone, .string ⟨o.value.toArray⟩] :: B) (.slice (some ⟨g, 0, none⟩) 1 1) [o] := by
  refine ⟨fun w' M hh => ⟨?_, some ⟨g, 0, none⟩, 1, rfl, Nat.le_refl _, (by simp [maxLen]), fun _ => ⟨g, 0, rfl, trivial, fun i j r u hr hu => ?_⟩⟩, fun p hp => ?_⟩
  · intro r hr
    rw [List.map_cons, List.map_nil, List.mem_singleton] at hr
    rw [hr]
    rfl
  · have hb := Held.blk hh
    cases i with
    | succ i => simp at hr
    | zero =>
      have e : opRow o = r := by simpa using hr
      subst e
      unfold opRow sv at hu
      refine hb.cell ?_
      match j, hu with
      | 0, hu => simpa using hu
      | 1, hu => simpa using hu
      | 2, hu => simpa using hu
      | j + 3, hu => simp at hu
  · rw [List.mem_singleton] at hp
    rw [hp]
    exact ⟨h1, h2⟩

def awOps : List KOp := [⟨[97], false, [49]⟩]
theorem aw_ret : ((kst 1000).commit awOps).2 = (1, 0) := by kernel_rfl
theorem aw_get : Kv.get ((kst 1000).commit awOps).1.items [97] = some ⟨false, [49], 1⟩ := by kernel_rfl

set_option maxRecDepth 100000 in
set_option maxHeartbeats 4000000 in
theorem kawake_any (w : World) : Calls Tryz.prog 10 #[] w fun e w' => e = .returned (.bool true) ∧ Mod (fun _ => False) w w' := by
  have HB := hid (kbegun_held (Held.begin w) 1000 (by decide))
  have hg := kst_good (k := 1000) (by decide)
  have hg1 := (hg.commit (show (1 : Nat) ≤ 246 by decide) awOps).1
  have hget := aw_get
  have hret := aw_ret
  have HC := hid (fun w1 sp p g (g1 : Held w w1 (rKv sp p (kst 1000) :: rBlk g 55 #[.string ⟨#[97]⟩, .bool false, .string ⟨#[49]⟩] :: [])) => kcommit_held (nameOk_100 w) g1 hg (show (1 : Nat) < 100 by decide) (show (1 : Nat) ≤ 245 by decide) _ awOps (opsR_blk1 ⟨[97], false, [49]⟩ (by decide) (by decide)))
  have HG := hid (fun w1 sp p B (g1 : Held w w1 (rKv sp p ((kst 1000).commit awOps).1 :: B)) => kget_held g1 hg1.items (k := [97]) (by decide))
  rw [hget] at HG
  rw [show ((kst 1000).commit awOps).2.1 = 1 from congrArg Prod.fst hret, show ((kst 1000).commit awOps).2.2 = 0 from congrArg Prod.snd hret] at HC
  generalize ((kst 1000).commit awOps).1 = s1 at *
  unfold getV itemV sv at HG
  dsimp only at HG
  clear hg hg1 hget hret
  go_enter Tryz.func10, Tryz.ntmps10
  go_wp2_with (first
    | (go_at_call 11; refine HB.out.mono ?_; rintro e w1 ⟨p, sp, rfl, g1⟩; have G1 := hid ((g1.block 55 #[.string ⟨#[97]⟩, .bool false, .string ⟨#[49]⟩]).pull1); clear g1)
    | (go_at_call 12; refine (HC.out _ _ _ _ G1.out).mono ?_; rintro e w2 ⟨rfl, g2⟩; have G2 := hid g2; clear g2)
    | (go_at_call 19; refine (HG.out _ _ _ _ G2.out).mono ?_; rintro e w3 ⟨rfl, g3⟩; have G3 := hid g3; clear g3))
  go_ret
  exact ⟨rfl, (G3.out.mod).alloc _⟩
end Go.Proofs.YtdbhccehbjhbpaaGreatDoor
