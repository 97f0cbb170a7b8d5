/- disk in memory; the contracts of may, made, look. -/
import Derived.Test.YtkednbkildkkmaaA1
import Derived.Test.YtkednbkildkkmaaD1
import Derived.Deep.CutBlock
import Derived.Deep.DeepCutAuto
import Derived.Deep.RegionLaw
import Derived.Sort.MapsRangeIn
namespace Go.Proofs.Ytkednbkildkkmaa
open Go.RowKit
open Go.ChangeMaps (setBlock)
open Go.Maps (Keyed)
open Disk

/-- a text as a value. -/
def sv (l : Bytes) : Value := .string ⟨l.toArray⟩
theorem sv_of (s : ByteArray) : Value.string s = sv s.data.toList := by cases s; simp [sv]
theorem sv_inj {l m : Bytes} (h : sv l = sv m) : l = m := by
  unfold sv at h
  injection h with h
  injection h with h
  simpa using h
theorem strKeyed : Keyed Try.prog 9 := Go.Maps.string_keyed Try.underlying9
theorem svKey (l : Bytes) (h : l.length ≤ 9223372036854775807) : keyOf Try.prog 9 (sv l) = some (.string l) := by
  have h' : (ByteArray.mk l.toArray).size ≤ maxLen := by unfold maxLen; show l.toArray.size ≤ _; simpa using h
  simp [keyOf, Try.underlying9, mapKey, sv, h']
theorem zeroFilePtr (w : World) : (zeroValue 67).run Try.prog w = .ok (.pointer none) w := by kernel_rfl
theorem zeroInt (w : World) : (zeroValue 3).run Try.prog w = .ok (.int .i64 0) w := by kernel_rfl

def rFile (y : (Bytes × Bytes) × Value) : Res := rSome (fun a : Nat × Value => y.2 = .pointer (some ⟨a.1, 0, none⟩)) fun a => [rBlk a.1 77 #[a.2], rBytes a.2 y.1.2]
theorem fileLoc : Loc (fun (y : (Bytes × Bytes) × Value) w F => (rFile y).holds w F) := ⟨fun {y _ _ _} h hk => (rFile y).keep h hk, fun {y _ _} h => (rFile y).lt h⟩
def rFiles (bm : Nat) (f : Files) : Res :=
  rSome (fun ys : List ((Bytes × Bytes) × Value) => (ys.map (·.1)).Perm f) fun ys => [rMapB Try.prog 9 bm (ys.map fun y => (sv y.1.1, y.2)), rBig fileLoc ys]

def actRow (a : Deed) (bv : Value) : List Value := [.int .i64 a.kind, sv a.name, .int .i64 a.at_, bv]
theorem bytesLoc : Loc (fun (y : Value × Bytes) w F => (rBytes y.1 y.2).holds w F) := ⟨fun {y _ _ _} h hk => (rBytes y.1 y.2).keep h hk, fun {y _ _} h => (rBytes y.1 y.2).lt h⟩
def rActs (v : Value) (l : List Deed) : Res :=
  rSome (fun bvs : List Value => bvs.length = l.length) fun bvs => [rRows 4 72 v (List.zipWith actRow l bvs), rBig bytesLoc (bvs.zip (l.map (·.b)))]
def rHeld (bm : Nat) (h : Dict Nat) : Res := rMapB Try.prog 9 bm (h.map fun x => (sv x.1, .int .i64 x.2))

structure DiskIn where
  bs : Nat
  bl : Nat
  bh : Nat
  vp : Value
def diskCells (d : Dk) (i : DiskIn) : Array Value := #[.int .i64 d.room, .map (some i.bs), .map (some i.bl), i.vp, .map (some i.bh)]
def diskRes (p : Nat) (d : Dk) (i : DiskIn) : List Res := [rBlk p 52 (diskCells d i), rFiles i.bs d.seen, rFiles i.bl d.lasting, rActs i.vp d.pending, rHeld i.bh d.held]
def rDisk (p : Nat) (d : Dk) : Res := rSome (fun _ : DiskIn => True) (diskRes p d)

/-! ### may -/
set_option maxRecDepth 100000 in
set_option maxHeartbeats 2000000 in
theorem may_any (w : World) (l : Bytes) (hl : l.length ≤ 9223372036854775807) : Calls Try.prog 51 #[sv l] w fun e w' => e = .returned (.bool (may l)) ∧ Mod (fun _ => False) w w' := by
  unfold sv
  go_enter Try.func51, Try.ntmps51
  go_wp2_with fail
  go_loopw [7] (fun i wr => ∃ k : Nat, k ≤ l.length ∧ i = .int .i64 k ∧ (l.take k).all okByte = true ∧ Mod (fun _ => False) w wr) (fun i _ => l.length - (intOf i).toNat)
  case atStart => exact ⟨0, Nat.zero_le _, rfl, rfl, Mod.refl _ _⟩
  case round =>
    obtain ⟨k, hk, rfl, hall, hm⟩ := hrel
    have HA := hid (And.intro hall hm)
    clear hall hm
    by_cases hlt : k < l.length
    · have hx : (ByteArray.mk l.toArray)[k]'(by show k < l.toArray.size; simpa using hlt) = l[k] := rfl
      go_wp2_with fail
      all_goals simp only [hx] at *
      all_goals try simp only [bne_iff_ne, ne_eq, bne_eq_false_iff_eq] at *
      all_goals first
        | (refine ⟨⟨k + 1, by omega, by simp, ?_, HA.out.2⟩, ?_⟩
           · rw [List.take_succ_eq_append_getElem hlt, List.all_append, HA.out.1]
             have hk : okByte l[k] = true := by unfold okByte; simp only [Bool.or_eq_true, decide_eq_true_eq]; omega
             simp [hk]
           · show l.length - ((k : Int) + 1).toNat < l.length - (k : Int).toNat
             omega)
        | (have hk : okByte l[k] = false := by unfold okByte; simp only [Bool.or_eq_false_iff, decide_eq_false_iff_not]; omega
           have hm : may l = false := by
             unfold may
             have : l.all okByte = false := by rw [List.all_eq_false]; exact ⟨l[k], List.getElem_mem _, by simp [hk]⟩
             simp [this]
           go_ret
           rw [hm]
           exact ⟨rfl, HA.out.2⟩)
    · have hall : l.all okByte = true := by have := HA.out.1; rwa [List.take_of_length_le (by omega)] at this
      go_wp2_with fail
      all_goals
        have hm : may l = (decide (1 ≤ l.length) && decide (l.length ≤ 24)) := by unfold may; rw [hall]; rfl
        go_ret
        rw [hm]
        refine ⟨?_, HA.out.2⟩
      all_goals first
        | (show Ending.returned (.bool (decide ((l.length : Int) ≤ 24))) = _
           congr 2
           rw [Bool.eq_iff_iff]
           simp only [Bool.and_eq_true, decide_eq_true_eq]
           omega)
        | (show Ending.returned (.bool false) = _
           congr 2
           symm
           rw [Bool.and_eq_false_iff]
           left
           rw [decide_eq_false_iff_not]
           omega)
end Go.Proofs.Ytkednbkildkkmaa
