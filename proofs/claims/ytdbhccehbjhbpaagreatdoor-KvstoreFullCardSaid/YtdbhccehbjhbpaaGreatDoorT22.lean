/- wire.Number of numbers of two and three bytes. -/
import Derived.Test.YtdbhccehbjhbpaaGreatDoorT21
namespace Go.Proofs.YtdbhccehbjhbpaaGreatDoor
open Go.RowKit
open Slog (numB)

set_option maxRecDepth 100000 in
set_option maxHeartbeats 2000000 in
theorem number_one {w0 w : World} {B : List Res} (h : Held w0 w B) (S : Nat → Prop) (v : Value) (l : List UInt8) (hv : Rd S w v (bytesV l)) (hl : l.length ≤ 1000000000000) (n : Nat) (hn1 : 248 ≤ n) (hn2 : n < 256) :
    Calls Tryz.prog 36 #[v, .int .i64 n] w fun e w' => ∃ v', e = .returned v' ∧ Held w0 w' (rBytes v' (l ++ numB n) :: B) := by
  obtain ⟨i0, hi, hz0, hz1, hz2⟩ := info_parts Tryz.info5
  have HI := hid (And.intro hi (And.intro hz0 (And.intro hz1 hz2)))
  have HV := hid hv
  have HH := hid h
  have HL := hid (fun w => len64_any w (n : Int) (by omega) (by omega))
  have HT := hid (show ((Lib.bitLen ((n : Int)).toNat : Nat) : Int) = 8 by have := bitLen_top ⟨n, hn2⟩ (by show 128 ≤ n; omega); show ((Lib.bitLen n : Nat) : Int) = 8; rw [show Lib.bitLen n = 8 from this]; rfl)
  clear hi hz0 hz1 hz2 hv h
  go_enter Tryz.func36, Tryz.ntmps36
  go_wp2_with (at_builtin; refine wpList_append_rd _ rfl _ _ 87 rfl 5 i0 (.int .u8 0) 1 Tryz.underlying87 HI.out.1 HI.out.2.1 HI.out.2.2.1 HI.out.2.2.2 rfl (.slice none 0 0) 0 [] [] rfl (Own.nil _ _ _) S v (bytesV l) rfl HV.out (bytesV_one _) ?c1 ?c2 ?c3)
  case c1 => rw [bytesV_length]; omega
  case c2 => rw [bytesV_length]; unfold maxLen; omega
  case c3 =>
    intro v1 w1 F1 hown hu
    rw [bytesV_length] at hown
    have g1 := HH.out.more (R := rBytes v1 l) (own_bytes (by simpa using hown)) hu
    obtain ⟨A1, K1, rfl⟩ := hown.form
    obtain ⟨bs1, hbs1⟩ : ∃ bs1, bs1 = bytesV l := ⟨_, rfl⟩
    have G1 := hid (show Held w0 w1 (rOwn 5 (.slice A1 l.length K1) (bytesV l) :: B) from g1)
    have HBL1 := hid (bytesV_length l)
    rw [← hbs1] at G1 HBL1
    have HBS1 := hid hbs1
    clear g1 hown hu HV HH hbs1
    go_wp2_with (first | (go_at_call 68; refine (HL.out _).mono ?_; rw [HT.out]; rintro e w9 ⟨rfl, hw⟩; rw [hw]; clear hw) | (at_builtin; refine wpList_append_held [] _ rfl _ _ 87 rfl 5 i0 (.int .u8 0) 1 Tryz.underlying87 HI.out.1 HI.out.2.1 HI.out.2.2.1 HI.out.2.2.2 rfl _ _ rfl (G1.out.alloc _) _ (.slice (some ⟨w1.heap.size, 0, none⟩) 1 1) [.int .u8 248] rfl (own_built 5 w1 [.int .u8 248] (by simp [maxLen])).rd (by simp [Value.oneCell']) ?a1 ?b1 ?e1))
    case a1 => rw [HBL1.out, List.length_singleton]; omega
    case b1 => rw [HBL1.out, List.length_singleton]; unfold maxLen; omega
    case e1 =>
      intro A2 K2 w2 q1 q2 g
      rw [HBL1.out] at g ⊢
      have HBL2 := hid (show (bs1 ++ [Value.int .u8 248]).length = l.length + 1 by rw [List.length_append, HBL1.out, List.length_singleton])
      have G2 := hid (show Held w0 w2 (rOwn 5 (.slice A2 (l.length + 1) K2) (bs1 ++ [Value.int .u8 248]) :: B) from g)
      obtain ⟨bs2, hbs2⟩ : ∃ bs2, bs2 = bs1 ++ [Value.int .u8 248] := ⟨_, rfl⟩
      have HBS2 := hid hbs2
      rw [← hbs2] at HBL2 G2
      clear g hbs2 G1
      go_wp2_with fail
      refine wp_loop_rounds 2 ?_
      rw [rounds_succ]
      go_wp2_with (at_builtin; refine wpList_append_held [] _ rfl _ _ 87 rfl 5 i0 (.int .u8 0) 1 Tryz.underlying87 HI.out.1 HI.out.2.1 HI.out.2.2.1 HI.out.2.2.2 rfl _ _ rfl (G2.out.alloc _) _ (.slice (some ⟨w2.heap.size, 0, none⟩) 1 1) [.int .u8 n] rfl (own_built 5 w2 [.int .u8 n] (by simp [maxLen])).rd (by simp [Value.oneCell']) ?a2 ?b2 ?e2)
      case a2 => rw [HBL2.out, List.length_singleton]; omega
      case b2 => rw [HBL2.out, List.length_singleton]; unfold maxLen; omega
      case e2 =>
        intro A3 K3 w3 q1 q2 g
        rw [HBL2.out] at g ⊢
        have e : bytesV (l ++ numB n) = bs2 ++ [Value.int .u8 n] := by
          rw [HBS2.out, HBS1.out, bytesV_append, numB_one hn1 hn2, List.append_assoc]
          congr 1
          unfold bytesV
          simp
          omega
        have G3 := hid (show Held w0 w3 (rBytes (.slice A3 (l.length + 1 + 1) K3) (l ++ numB n) :: B) by unfold rBytes; rw [e]; exact g)
        clear g e
        go_wp2_with fail
        rw [rounds_succ]
        go_wp2_with fail
        go_ret
        exact ⟨_, rfl, G3.out⟩
end Go.Proofs.YtdbhccehbjhbpaaGreatDoor
