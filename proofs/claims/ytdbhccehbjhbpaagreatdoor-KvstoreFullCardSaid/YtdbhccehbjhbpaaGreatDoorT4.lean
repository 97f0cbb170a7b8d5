/- wire: words, numbers of one byte, frames. -/
import Derived.Test.YtdbhccehbjhbpaaGreatDoorT3
import Derived.Lib.AppendZeros
namespace Go.Proofs.YtdbhccehbjhbpaaGreatDoor
open Go.RowKit
open Slog (crc word4 head3 frame framed numB)

theorem own_built (e : TypeId) (w : World) (xs : List Value) (hx : xs.length ≤ maxLen) : Own e 1 (.slice (some ⟨w.heap.size, 0, none⟩) xs.length xs.length) xs.length xs (w.alloc (.cells xs.toArray e)) [w.heap.size] := by
  refine ⟨⟨by simp, .inr ⟨w.heap.size, xs.length, xs.toArray, rfl, Nat.zero_le _, heap_alloc_new w _, Nat.le_refl _, hx, by simp, by simp⟩⟩, rfl⟩
theorem upd_built (w : World) (o : Obj) : Upd w (w.alloc o) [] [w.heap.size] := ⟨(Mod.refl _ w).alloc _, by simp, fun b hb => .inr (by simp at hb; omega)⟩

def wordV (n : Nat) : Value := .agg (bytesV (word4 n)).toArray

set_option maxRecDepth 100000 in
theorem word_any (w : World) (n : Nat) (hn : n < 4294967296) :
    Calls Tryz.prog 169 #[.int .u32 n] w fun e w' => e = .returned (wordV n) ∧ Mod (fun _ => False) w w' := by
  have HW := hid (show (#[.int .u8 ((n : Int) / 16777216), .int .u8 ((n : Int) / 65536 % 256), .int .u8 ((n : Int) / 256 % 256), .int .u8 ((n : Int) % 256)] : Array Value) = (bytesV (word4 n)).toArray by
    unfold bytesV word4
    simp
    omega)
  go_enter Tryz.func169, Tryz.ntmps169
  go_wp2_with fail
  refine bodyPost_ret (v := wordV n) ?_ rfl ?_
  · have hl := run_loadVar_row (P := Tryz.prog) (w.alloc (.cells (bytesV (word4 n)).toArray 231)) w.heap.size 231 231 (bytesV (word4 n)).toArray (0, 0) _ (heap_alloc_new w _) Tryz.underlying231 rfl (by rw [show (bytesV (word4 n)).toArray.size = 4 from rfl]; kernel_rfl)
    have hr : Tryz.f169.results = #[.cell 2 231] := rfl
    unfold results
    rw [hr]
    simp only [HW.out]
    simp [asAddr, hl, wordV]
  · exact ⟨rfl, (Mod.refl _ w).alloc _⟩

theorem u8_nat (n : Nat) : ((UInt8.ofNat n).toNat : Int) = IntKind.u8.wrap (n : Int) := by
  rw [IntKind.wrap_u8]
  simp
set_option maxRecDepth 100000 in
theorem number_any (w : World) (n : Nat) (hn : n ≤ 247) :
    Calls Tryz.prog 36 #[.slice none 0 0, .int .i64 n] w fun e w' => ∃ v' F, e = .returned v' ∧ Own 5 1 v' 1 (bytesV (numB n)) w' F ∧ Upd w w' [] F := by
  obtain ⟨i0, hi, hz0, hz1, hz2⟩ := info_parts Tryz.info5
  have HI := hid (And.intro hi (And.intro hz0 (And.intro hz1 hz2)))
  clear hi hz0 hz1 hz2
  have HR := hid (fun ty => run_append_nilsrc (P := Tryz.prog) w 0 87 ty 5 i0 1 Tryz.underlying87 HI.out.1 (.slice none 0 0) 0 [] (World.ownsRow_nil w 0 _ 1) none 0 rfl)
  have HO := hid (own_built 5 w [.int .u8 n] (by simp [maxLen]))
  go_enter Tryz.func36, Tryz.ntmps36
  go_wp2_with (at_builtin; first
    | (refine Lib.wpList_append_run _ rfl _ _ 87 87 rfl (.slice none 0 0) (.slice none 0 0) rfl rfl _ _ (HR.out _) ?_)
    | (refine wpList_append_rd _ rfl _ _ 87 rfl 5 i0 (.int .u8 0) 1 Tryz.underlying87 HI.out.1 HI.out.2.1 HI.out.2.2.1 HI.out.2.2.2 rfl (.slice none 0 0) 0 [] [] rfl (Own.nil _ _ _) _ (.slice (some ⟨w.heap.size, 0, none⟩) 1 1) [.int .u8 n] rfl HO.out.rd (by simp [Value.oneCell']) ?c1 ?c2 ?c3))
  case c1 => simp
  case c2 => simp [maxLen]
  case c3 =>
    intro v' w1 F' hown hu
    have HP := hid (And.intro hown hu)
    clear hown hu
    go_wp2
    go_ret
    obtain ⟨hown, hu⟩ := HP.out
    have e : bytesV (numB n) = [.int .u8 n] := by
      rw [Slog.numB_small hn]
      unfold bytesV
      simp
      omega
    rw [e]
    exact ⟨_, F', rfl, by simpa using hown, Upd.new ((Mod.refl _ w).alloc _) hu (by simp)⟩
end Go.Proofs.YtdbhccehbjhbpaaGreatDoor
