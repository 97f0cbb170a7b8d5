/- wire.Number of any number below 2^16, behind bytes. -/
import Derived.Test.YtdbhccehbjhbpaaGreatDoorT4
import Derived.Lib.Strings
import Derived.Lib.Slices
import Derived.Lib.Small
import Derived.Lib.Walk
import Derived.Lib.BitFns
namespace Go.Proofs.YtdbhccehbjhbpaaGreatDoor
open Go.RowKit
open Slog (numB)

theorem len8tab_size : (Lib.len8tab.size : Int) = 256 := by
  have : Lib.len8tab.size = 256 := by decide +kernel
  omega
theorem len8_get (y : Int) (h : y.toNat < Lib.len8tab.size) : ((Lib.len8tab[y.toNat]'h).toNat : Int) = Lib.len8 y := by
  unfold Lib.len8
  rw [getElem?_pos Lib.len8tab y.toNat h]
  rfl
set_option maxRecDepth 100000 in
set_option maxHeartbeats 4000000 in
theorem len64_any (w : World) (x : Int) (h1 : 0 ≤ x) (h2 : x < 65536) :
    Calls Tryz.prog 68 #[.int .u64 x] w fun e w' => e = .returned (.int .i64 (Lib.bitLen x.toNat)) ∧ w' = w := by
  go_enter Tryz.func68, Tryz.ntmps68
  go_wp2
  all_goals first
    | (go_ret; refine ⟨congrArg Ending.returned (congrArg (Value.int IntKind.i64) ?_), rfl⟩)
    | (exfalso; have hs := len8tab_size; omega)
  · rw [len8_get (x / 256) _, Lib.len8_of (x / 256) (by omega) (by omega)]
    have e : (x / 256).toNat = x.toNat / 256 := by omega
    have l := Lib.bitLen_le8' (x / 256) (by omega) (by omega)
    have s := Lib.bitLen_shift8 x.toNat (by omega) (by omega)
    rw [e] at l ⊢
    unfold wrap64
    omega
  · rw [len8_get x _, Lib.len8_of x (by omega) (by omega)]
    have l := Lib.bitLen_le8' x (by omega) (by omega)
    unfold wrap64
    omega
theorem bitLen_top : ∀ n : Fin 256, 128 ≤ n.val → Lib.bitLen n.val = 8 := by decide +kernel
theorem bitLen_pos {n : Nat} (h : 1 ≤ n) : 1 ≤ Lib.bitLen n := by
  show 1 ≤ Lib.bitLenAux 64 n
  unfold Lib.bitLenAux
  rw [if_neg (by omega)]
  omega
theorem numB_one {n : Nat} (h1 : 248 ≤ n) (h2 : n < 256) : numB n = [248, UInt8.ofNat n] := by
  unfold numB
  rw [if_neg (by omega)]
  have hw : Slog.width n = 1 := by unfold Slog.width; rw [if_pos h2]
  rw [hw]
  simp [Slog.bytesOf]
theorem numB_two {n : Nat} (h1 : 256 ≤ n) (h2 : n < 65536) : numB n = [249, UInt8.ofNat (n / 256), UInt8.ofNat n] := by
  unfold numB
  rw [if_neg (by omega)]
  have hw : Slog.width n = 2 := by unfold Slog.width; rw [if_neg (by omega), if_pos h2]
  rw [hw]
  simp [Slog.bytesOf]

set_option maxRecDepth 100000 in
set_option maxHeartbeats 2000000 in
theorem number_small {w0 w : World} {B : List Res} (h : Held w0 w B) (S : Nat → Prop) (v : Value) (l : List UInt8) (hv : Rd S w v (bytesV l)) (hl : l.length ≤ 1000000000000) (n : Nat) (hn : n ≤ 247) :
    Calls Tryz.prog 36 #[v, .int .i64 n] w fun e w' => ∃ v', e = .returned v' ∧ Held w0 w' (rBytes v' (l ++ numB n) :: B) := by
  obtain ⟨i0, hi, hz0, hz1, hz2⟩ := info_parts Tryz.info5
  have HI := hid (And.intro hi (And.intro hz0 (And.intro hz1 hz2)))
  have HV := hid hv
  have HH := hid h
  clear hi hz0 hz1 hz2 hv h
  go_enter Tryz.func36, Tryz.ntmps36
  go_wp2_with (at_builtin; refine wpList_append_rd _ rfl _ _ 87 rfl 5 i0 (.int .u8 0) 1 Tryz.underlying87 HI.out.1 HI.out.2.1 HI.out.2.2.1 HI.out.2.2.2 rfl (.slice none 0 0) 0 [] [] rfl (Own.nil _ _ _) S v (bytesV l) rfl HV.out (bytesV_one _) ?c1 ?c2 ?c3)
  case c1 => rw [bytesV_length]; omega
  case c2 => rw [bytesV_length]; unfold maxLen; omega
  case c3 =>
    intro v1 w1 F1 hown hu
    rw [bytesV_length] at hown
    have g1 := HH.out.more (R := rBytes v1 l) (own_bytes (by simpa using hown)) hu
    obtain ⟨A1, k1, rfl⟩ := hown.form
    have G1 := hid (show Held w0 w1 (rOwn 5 (.slice A1 l.length k1) (bytesV l) :: B) from g1)
    have HBL := hid (bytesV_length l)
    clear g1 hown hu HV HH
    go_wp2_with (at_builtin; refine wpList_append_held [] _ rfl _ _ 87 rfl 5 i0 (.int .u8 0) 1 Tryz.underlying87 HI.out.1 HI.out.2.1 HI.out.2.2.1 HI.out.2.2.2 rfl (.slice A1 l.length k1) (bytesV l) rfl (G1.out.alloc _) _ (.slice (some ⟨w1.heap.size, 0, none⟩) 1 1) [.int .u8 n] rfl (own_built 5 w1 [.int .u8 n] (by simp [maxLen])).rd (by simp [Value.oneCell']) ?d1 ?d2 ?d3)
    case d1 => rw [HBL.out, List.length_singleton]; omega
    case d2 => rw [HBL.out, List.length_singleton]; unfold maxLen; omega
    case d3 =>
      intro A2 k2 w2 q1 q2 g2
      have e : bytesV (l ++ numB n) = bytesV l ++ [.int .u8 n] := by
        rw [bytesV_append, Slog.numB_small hn]
        congr 1
        unfold bytesV
        simp
        omega
      have g3 : Held w0 w2 (rBytes (.slice A2 ((bytesV l).length + [Value.int .u8 n].length) k2) (l ++ numB n) :: B) := by
        unfold rBytes
        rw [e]
        exact g2
      have G3 := hid g3
      clear g2 g3 e
      go_wp2
      go_ret
      exact ⟨_, rfl, G3.out⟩
end Go.Proofs.YtdbhccehbjhbpaaGreatDoor
