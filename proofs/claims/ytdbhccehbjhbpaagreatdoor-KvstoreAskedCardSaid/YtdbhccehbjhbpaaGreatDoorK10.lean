/- kvstore: the closures of Scan and Since. -/
import Derived.Test.YtdbhccehbjhbpaaGreatDoorK9
import Derived.Sort.Walk0

namespace Go.Proofs.YtdbhccehbjhbpaaGreatDoor
open Go.RowKit
open Disk (Dk Dict)
open Kv (It KOp Items)

set_option maxRecDepth 100000 in
theorem since1_any (w : World) (k : List UInt8) (x : It) (vb : Nat) (n : Int) (hv : w.cell? ⟨vb, 0, none⟩ = some (.int .i64 n)) :
    Calls Tryz.prog 42 #[itemV k x, .pointer (some ⟨vb, 0, none⟩)] w fun e w' => e = .returned (.bool (decide (n < (x.at_ : Int)))) ∧ Mod (fun _ => False) w w' := by
  unfold itemV sv
  have hv2 : (w.alloc (.cells #[.string ⟨k.toArray⟩, .bool x.gone, .string ⟨x.value.toArray⟩, .int .i64 x.at_] 41)).cell? ⟨vb, 0, none⟩ = some (.int .i64 n) := cell_alloc _ _ _ _ hv
  clear hv
  go_enter Tryz.func42, Tryz.ntmps42
  go_wp2
  go_ret
  exact ⟨rfl, (Mod.refl _ _).alloc _⟩

set_option maxRecDepth 100000 in
theorem scan1_any (w : World) (k : List UInt8) (x : It) (fb tb : Nat) (a b : List UInt8) (hf : w.cell? ⟨fb, 0, none⟩ = some (sv a)) (ht : w.cell? ⟨tb, 0, none⟩ = some (sv b)) :
    Calls Tryz.prog 41 #[itemV k x, .pointer (some ⟨fb, 0, none⟩), .pointer (some ⟨tb, 0, none⟩)] w fun e w' => e = .returned (.bool (Kv.inScan a b k x)) ∧ Mod (fun _ => False) w w' := by
  unfold sv at hf ht
  obtain ⟨g, v, n⟩ := x
  unfold itemV sv
  have hf2 : (w.alloc (.cells #[.string ⟨k.toArray⟩, .bool g, .string ⟨v.toArray⟩, .int .i64 n] 41)).cell? ⟨fb, 0, none⟩ = some (.string ⟨a.toArray⟩) := cell_alloc _ _ _ _ hf
  have ht2 : (w.alloc (.cells #[.string ⟨k.toArray⟩, .bool g, .string ⟨v.toArray⟩, .int .i64 n] 41)).cell? ⟨tb, 0, none⟩ = some (.string ⟨b.toArray⟩) := cell_alloc _ _ _ _ ht
  clear hf ht
  dsimp only
  cases g with
  | true =>
    go_enter Tryz.func41, Tryz.ntmps41
    go_wp2
    go_ret
    exact ⟨rfl, (Mod.refl _ _).alloc _⟩
  | false =>
    go_enter Tryz.func41, Tryz.ntmps41
    go_wp2
    all_goals
      go_ret
      refine ⟨?_, (Mod.refl _ _).alloc _⟩
      congr 2
      unfold Kv.inScan
      simp_all [bytesLess_eq]
      try (intro h; exact absurd (by assumption) h)
end Go.Proofs.YtdbhccehbjhbpaaGreatDoor
