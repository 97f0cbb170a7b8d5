/- wire.Number of numbers of three bytes; of any number below 2^16. -/
import Derived.Test.YtdbhccehbjhbpaaGreatDoorT22
namespace Go.Proofs.YtdbhccehbjhbpaaGreatDoor
open Go.RowKit
open Slog (numB)

theorem bitLen_two {n : Nat} (h1 : 256 ≤ n) (h2 : n < 65536) : 9 ≤ Lib.bitLen n ∧ Lib.bitLen n ≤ 16 := by
  have s := Lib.bitLen_shift8 n (by omega) (by omega)
  have p := bitLen_pos (n := n / 256) (by omega)
  have l := Lib.bitLen_le8' (n / 256 : Nat) (by omega) (by omega)
  rw [Int.toNat_natCast] at l
  omega
set_option maxRecDepth 100000 in
set_option maxHeartbeats 2000000 in
theorem number_two {w0 w : World} {B : List Res} (h : Held w0 w B) (S : Nat → Prop) (v : Value) (l : List UInt8) (hv : Rd S w v (bytesV l)) (hl : l.length ≤ 1000000000000) (n : Nat) (hn1 : 256 ≤ n) (hn2 : n < 65536) :
    Calls Tryz.prog 36 #[v, .int .i64 n] w fun e w' => ∃ v', e = .returned v' ∧ Held w0 w' (rBytes v' (l ++ numB n) :: B) := by
  obtain ⟨i0, hi, hz0, hz1, hz2⟩ := info_parts Tryz.info5
  have HI := hid (And.intro hi (And.intro hz0 (And.intro hz1 hz2)))
  have HV := hid hv
  have HH := hid h
  have HL := hid (fun w => len64_any w (n : Int) (by omega) (by omega))
  obtain ⟨b, hb⟩ : ∃ b, b = Lib.bitLen ((n : Int)).toNat := ⟨_, rfl⟩
  have hb2 : 9 ≤ b ∧ b ≤ 16 := by rw [hb]; exact bitLen_two hn1 hn2
  rw [← hb] at HL
  have HK := hid (show ((b : Int) + 7) / 8 = 2 by omega)
  clear hi hz0 hz1 hz2 hv h hb
  go_enter Tryz.func36, Tryz.ntmps36
  go_wp2_with (at_builtin; refine wpList_append_rd _ rfl _ _ 87 rfl 5 i0 (.int .u8 0) 1 Tryz.underlying87 HI.out.1 HI.out.2.1 HI.out.2.2.1 HI.out.2.2.2 rfl (.slice none 0 0) 0 [] [] rfl (Own.nil _ _ _) S v (bytesV l) rfl HV.out (bytesV_one _) ?c1 ?c2 ?c3)
  case c1 => rw [bytesV_length]; omega
  case c2 => rw [bytesV_length]; unfold maxLen; omega
  case c3 =>
    intro v1 w1 F1 hown hu
    rw [bytesV_length] at hown
    have g1 := HH.out.more (R := rBytes v1 l) (own_bytes (by simpa using hown)) hu
    obtain ⟨A1, K1, rfl⟩ := hown.form
    obtain ⟨bs1, hbs1⟩ : ∃ bs1, bs1 = bytesV l := ⟨_, rfl⟩
    have G1 := hid (show Held w0 w1 (rOwn 5 (.slice A1 l.length K1) (bytesV l) :: B) from g1)
    have HBL1 := hid (bytesV_length l)
    rw [← hbs1] at G1 HBL1
    have HBS1 := hid hbs1
    clear g1 hown hu HV HH hbs1
    go_wp2_with (first | (go_at_call 68; refine (HL.out _).mono ?_; rintro e w9 ⟨rfl, hw⟩; rw [hw]; clear hw) | (at_builtin; rw [HK.out]; refine wpList_append_held [] _ rfl _ _ 87 rfl 5 i0 (.int .u8 0) 1 Tryz.underlying87 HI.out.1 HI.out.2.1 HI.out.2.2.1 HI.out.2.2.2 rfl _ _ rfl (G1.out.alloc _) _ (.slice (some ⟨w1.heap.size, 0, none⟩) 1 1) [.int .u8 (247 + 2)] rfl (own_built 5 w1 [.int .u8 (247 + 2)] (by simp [maxLen])).rd (by simp [Value.oneCell']) ?a1 ?b1 ?e1))
    case a1 => rw [HBL1.out, List.length_singleton]; omega
    case b1 => rw [HBL1.out, List.length_singleton]; unfold maxLen; omega
    case e1 =>
      intro A2 K2 w2 q1 q2 g
      rw [HBL1.out] at g ⊢
      have HBL2 := hid (show (bs1 ++ [Value.int .u8 249]).length = l.length + 1 by rw [List.length_append, HBL1.out, List.length_singleton])
      have G2 := hid (show Held w0 w2 (rOwn 5 (.slice A2 (l.length + 1) K2) (bs1 ++ [Value.int .u8 249]) :: B) from g)
      obtain ⟨bs2, hbs2⟩ : ∃ bs2, bs2 = bs1 ++ [Value.int .u8 249] := ⟨_, rfl⟩
      have HBS2 := hid hbs2
      rw [← hbs2] at HBL2 G2
      clear g hbs2 G1
      go_wp2_with fail
      refine wp_loop_rounds 3 ?_
      rw [rounds_succ]
      go_wp2_with (at_builtin; refine wpList_append_held [] _ rfl _ _ 87 rfl 5 i0 (.int .u8 0) 1 Tryz.underlying87 HI.out.1 HI.out.2.1 HI.out.2.2.1 HI.out.2.2.2 rfl _ _ rfl (G2.out.alloc _) _ (.slice (some ⟨w2.heap.size, 0, none⟩) 1 1) [.int .u8 ((n : Int) / 256)] rfl (own_built 5 w2 [.int .u8 ((n : Int) / 256)] (by simp [maxLen])).rd (by simp [Value.oneCell']) ?a2 ?b2 ?e2)
      case a2 => rw [HBL2.out, List.length_singleton]; omega
      case b2 => rw [HBL2.out, List.length_singleton]; unfold maxLen; omega
      case e2 =>
        intro A3 K3 w3 q1 q2 g
        rw [HBL2.out] at g ⊢
        have HBL3 := hid (show (bs2 ++ [Value.int .u8 ((n : Int) / 256)]).length = l.length + 1 + 1 by rw [List.length_append, HBL2.out, List.length_singleton])
        have G3 := hid (show Held w0 w3 (rOwn 5 (.slice A3 (l.length + 1 + 1) K3) (bs2 ++ [Value.int .u8 ((n : Int) / 256)]) :: B) from g)
        obtain ⟨bs3, hbs3⟩ : ∃ bs3, bs3 = bs2 ++ [Value.int .u8 ((n : Int) / 256)] := ⟨_, rfl⟩
        have HBS3 := hid hbs3
        rw [← hbs3] at HBL3 G3
        clear g hbs3 G2
        go_wp2_with fail
        rw [rounds_succ]
        go_wp2_with (at_builtin; refine wpList_append_held [] _ rfl _ _ 87 rfl 5 i0 (.int .u8 0) 1 Tryz.underlying87 HI.out.1 HI.out.2.1 HI.out.2.2.1 HI.out.2.2.2 rfl _ _ rfl (G3.out.alloc _) _ (.slice (some ⟨w3.heap.size, 0, none⟩) 1 1) [.int .u8 ((n : Int) % 256)] rfl (own_built 5 w3 [.int .u8 ((n : Int) % 256)] (by simp [maxLen])).rd (by simp [Value.oneCell']) ?a3 ?b3 ?e3)
        case a3 => rw [HBL3.out, List.length_singleton]; omega
        case b3 => rw [HBL3.out, List.length_singleton]; unfold maxLen; omega
        case e3 =>
          intro A4 K4 w4 q1 q2 g
          rw [HBL3.out] at g ⊢
          have e : bytesV (l ++ numB n) = bs3 ++ [Value.int .u8 ((n : Int) % 256)] := by
            rw [HBS3.out, HBS2.out, HBS1.out, bytesV_append, numB_two hn1 hn2, List.append_assoc, List.append_assoc]
            congr 1
            unfold bytesV
            simp
            omega
          have G4 := hid (show Held w0 w4 (rBytes (.slice A4 (l.length + 1 + 1 + 1) K4) (l ++ numB n) :: B) by unfold rBytes; rw [e]; exact g)
          clear g e
          go_wp2_with fail
          rw [rounds_succ]
          go_wp2_with fail
          go_ret
          exact ⟨_, rfl, G4.out⟩
/-- wire.Number of any number below 2^16, behind bytes. -/
theorem wnumber_held {w0 w : World} {B : List Res} (h : Held w0 w B) (S : Nat → Prop) (v : Value) (l : List UInt8) (hv : Rd S w v (bytesV l)) (hl : l.length ≤ 1000000000000) (n : Nat) (hn : n < 65536) :
    Calls Tryz.prog 36 #[v, .int .i64 n] w fun e w' => ∃ v', e = .returned v' ∧ Held w0 w' (rBytes v' (l ++ numB n) :: B) := by
  by_cases h1 : n ≤ 247
  · exact number_small h S v l hv hl n h1
  by_cases h2 : n < 256
  · exact number_one h S v l hv hl n (by omega) h2
  · exact number_two h S v l hv hl n (by omega) hn
end Go.Proofs.YtdbhccehbjhbpaaGreatDoor
