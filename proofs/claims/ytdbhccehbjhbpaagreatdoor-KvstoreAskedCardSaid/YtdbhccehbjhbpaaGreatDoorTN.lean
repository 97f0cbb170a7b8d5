/- kvstore: a law. (Several texts in one file, by mz.py.) -/
import Derived.Test.YtdbhccehbjhbpaaGreatDoorTA
import Derived.Lib.Strings
import Derived.Lib.Slices
import Derived.Lib.Small
import Derived.Lib.Walk
import Derived.Lib.BitFns
import Derived.Lib.AppendStr
import Derived.Test.YtdbhccehbjhbpaaGreatDoorKP

/- wire.Number of any number below 2^16, behind bytes. -/
namespace Go.Proofs.YtdbhccehbjhbpaaGreatDoor
open Go.RowKit
open Slog (numB)

theorem len8tab_size : (Lib.len8tab.size : Int) = 256 := by
  have : Lib.len8tab.size = 256 := by decide +kernel
  omega
theorem len8_get (y : Int) (h : y.toNat < Lib.len8tab.size) : ((Lib.len8tab[y.toNat]'h).toNat : Int) = Lib.len8 y := by
  unfold Lib.len8
  rw [getElem?_pos Lib.len8tab y.toNat h]
  rfl
set_option maxRecDepth 100000 in
set_option maxHeartbeats 4000000 in
theorem len64_any (w : World) (x : Int) (h1 : 0 ≤ x) (h2 : x < 65536) :
    Calls Tryz.prog 68 #[.int .u64 x] w fun e w' => e = .returned (.int .i64 (Lib.bitLen x.toNat)) ∧ w' = w := by
  go_enter Tryz.func68, Tryz.ntmps68
  go_wp2
  all_goals first
    | (go_ret; refine ⟨congrArg Ending.returned (congrArg (Value.int IntKind.i64) ?_), rfl⟩)
    | (exfalso; have hs := len8tab_size; omega)
  · rw [len8_get (x / 256) _, Lib.len8_of (x / 256) (by omega) (by omega)]
    have e : (x / 256).toNat = x.toNat / 256 := by omega
    have l := Lib.bitLen_le8' (x / 256) (by omega) (by omega)
    have s := Lib.bitLen_shift8 x.toNat (by omega) (by omega)
    rw [e] at l ⊢
    unfold wrap64
    omega
  · rw [len8_get x _, Lib.len8_of x (by omega) (by omega)]
    have l := Lib.bitLen_le8' x (by omega) (by omega)
    unfold wrap64
    omega
theorem bitLen_top : ∀ n : Fin 256, 128 ≤ n.val → Lib.bitLen n.val = 8 := by decide +kernel
theorem bitLen_pos {n : Nat} (h : 1 ≤ n) : 1 ≤ Lib.bitLen n := by
  show 1 ≤ Lib.bitLenAux 64 n
  unfold Lib.bitLenAux
  rw [if_neg (by omega)]
  omega
theorem numB_one {n : Nat} (h1 : 248 ≤ n) (h2 : n < 256) : numB n = [248, UInt8.ofNat n] := by
  unfold numB
  rw [if_neg (by omega)]
  have hw : Slog.width n = 1 := by unfold Slog.width; rw [if_pos h2]
  rw [hw]
  simp [Slog.bytesOf]
theorem numB_two {n : Nat} (h1 : 256 ≤ n) (h2 : n < 65536) : numB n = [249, UInt8.ofNat (n / 256), UInt8.ofNat n] := by
  unfold numB
  rw [if_neg (by omega)]
  have hw : Slog.width n = 2 := by unfold Slog.width; rw [if_neg (by omega), if_pos h2]
  rw [hw]
  simp [Slog.bytesOf]

set_option maxRecDepth 100000 in
set_option maxHeartbeats 2000000 in
theorem number_small {w0 w : World} {B : List Res} (h : Held w0 w B) (S : Nat → Prop) (v : Value) (l : List UInt8) (hv : Rd S w v (bytesV l)) (hl : l.length ≤ 1000000000000) (n : Nat) (hn : n ≤ 247) :
    Calls Tryz.prog 36 #[v, .int .i64 n] w fun e w' => ∃ v', e = .returned v' ∧ Held w0 w' (rBytes v' (l ++ numB n) :: B) := by
  obtain ⟨i0, hi, hz0, hz1, hz2⟩ := info_parts Tryz.info5
  have HI := hid (And.intro hi (And.intro hz0 (And.intro hz1 hz2)))
  have HV := hid hv
  have HH := hid h
  clear hi hz0 hz1 hz2 hv h
  go_enter Tryz.func36, Tryz.ntmps36
  go_wp2_with (at_builtin; refine wpList_append_rd _ rfl _ _ 87 rfl 5 i0 (.int .u8 0) 1 Tryz.underlying87 HI.out.1 HI.out.2.1 HI.out.2.2.1 HI.out.2.2.2 rfl (.slice none 0 0) 0 [] [] rfl (Own.nil _ _ _) S v (bytesV l) rfl HV.out (bytesV_one _) ?c1 ?c2 ?c3)
  case c1 => rw [bytesV_length]; omega
  case c2 => rw [bytesV_length]; unfold maxLen; omega
  case c3 =>
    intro v1 w1 F1 hown hu
    rw [bytesV_length] at hown
    have g1 := HH.out.more (R := rBytes v1 l) (own_bytes (by simpa using hown)) hu
    obtain ⟨A1, k1, rfl⟩ := hown.form
    have G1 := hid (show Held w0 w1 (rOwn 5 (.slice A1 l.length k1) (bytesV l) :: B) from g1)
    have HBL := hid (bytesV_length l)
    clear g1 hown hu HV HH
    go_wp2_with (at_builtin; refine wpList_append_held [] _ rfl _ _ 87 rfl 5 i0 (.int .u8 0) 1 Tryz.underlying87 HI.out.1 HI.out.2.1 HI.out.2.2.1 HI.out.2.2.2 rfl (.slice A1 l.length k1) (bytesV l) rfl (G1.out.alloc _) _ (.slice (some ⟨w1.heap.size, 0, none⟩) 1 1) [.int .u8 n] rfl (own_built 5 w1 [.int .u8 n] (by simp [maxLen])).rd (by simp [Value.oneCell']) ?d1 ?d2 ?d3)
    case d1 => rw [HBL.out, List.length_singleton]; omega
    case d2 => rw [HBL.out, List.length_singleton]; unfold maxLen; omega
    case d3 =>
      intro A2 k2 w2 q1 q2 g2
      have e : bytesV (l ++ numB n) = bytesV l ++ [.int .u8 n] := by
        rw [bytesV_append, Slog.numB_small hn]
        congr 1
        unfold bytesV
        simp
        omega
      have g3 : Held w0 w2 (rBytes (.slice A2 ((bytesV l).length + [Value.int .u8 n].length) k2) (l ++ numB n) :: B) := by
        unfold rBytes
        rw [e]
        exact g2
      have G3 := hid g3
      clear g2 g3 e
      go_wp2
      go_ret
      exact ⟨_, rfl, G3.out⟩
end Go.Proofs.YtdbhccehbjhbpaaGreatDoor

/- wire.Number of numbers of two and three bytes. -/
namespace Go.Proofs.YtdbhccehbjhbpaaGreatDoor
open Go.RowKit
open Slog (numB)

set_option maxRecDepth 100000 in
set_option maxHeartbeats 2000000 in
theorem number_one {w0 w : World} {B : List Res} (h : Held w0 w B) (S : Nat → Prop) (v : Value) (l : List UInt8) (hv : Rd S w v (bytesV l)) (hl : l.length ≤ 1000000000000) (n : Nat) (hn1 : 248 ≤ n) (hn2 : n < 256) :
    Calls Tryz.prog 36 #[v, .int .i64 n] w fun e w' => ∃ v', e = .returned v' ∧ Held w0 w' (rBytes v' (l ++ numB n) :: B) := by
  obtain ⟨i0, hi, hz0, hz1, hz2⟩ := info_parts Tryz.info5
  have HI := hid (And.intro hi (And.intro hz0 (And.intro hz1 hz2)))
  have HV := hid hv
  have HH := hid h
  have HL := hid (fun w => len64_any w (n : Int) (by omega) (by omega))
  have HT := hid (show ((Lib.bitLen ((n : Int)).toNat : Nat) : Int) = 8 by have := bitLen_top ⟨n, hn2⟩ (by show 128 ≤ n; omega); show ((Lib.bitLen n : Nat) : Int) = 8; rw [show Lib.bitLen n = 8 from this]; rfl)
  clear hi hz0 hz1 hz2 hv h
  go_enter Tryz.func36, Tryz.ntmps36
  go_wp2_with (at_builtin; refine wpList_append_rd _ rfl _ _ 87 rfl 5 i0 (.int .u8 0) 1 Tryz.underlying87 HI.out.1 HI.out.2.1 HI.out.2.2.1 HI.out.2.2.2 rfl (.slice none 0 0) 0 [] [] rfl (Own.nil _ _ _) S v (bytesV l) rfl HV.out (bytesV_one _) ?c1 ?c2 ?c3)
  case c1 => rw [bytesV_length]; omega
  case c2 => rw [bytesV_length]; unfold maxLen; omega
  case c3 =>
    intro v1 w1 F1 hown hu
    rw [bytesV_length] at hown
    have g1 := HH.out.more (R := rBytes v1 l) (own_bytes (by simpa using hown)) hu
    obtain ⟨A1, K1, rfl⟩ := hown.form
    obtain ⟨bs1, hbs1⟩ : ∃ bs1, bs1 = bytesV l := ⟨_, rfl⟩
    have G1 := hid (show Held w0 w1 (rOwn 5 (.slice A1 l.length K1) (bytesV l) :: B) from g1)
    have HBL1 := hid (bytesV_length l)
    rw [← hbs1] at G1 HBL1
    have HBS1 := hid hbs1
    clear g1 hown hu HV HH hbs1
    go_wp2_with (first | (go_at_call 68; refine (HL.out _).mono ?_; rw [HT.out]; rintro e w9 ⟨rfl, hw⟩; rw [hw]; clear hw) | (at_builtin; refine wpList_append_held [] _ rfl _ _ 87 rfl 5 i0 (.int .u8 0) 1 Tryz.underlying87 HI.out.1 HI.out.2.1 HI.out.2.2.1 HI.out.2.2.2 rfl _ _ rfl (G1.out.alloc _) _ (.slice (some ⟨w1.heap.size, 0, none⟩) 1 1) [.int .u8 248] rfl (own_built 5 w1 [.int .u8 248] (by simp [maxLen])).rd (by simp [Value.oneCell']) ?a1 ?b1 ?e1))
    case a1 => rw [HBL1.out, List.length_singleton]; omega
    case b1 => rw [HBL1.out, List.length_singleton]; unfold maxLen; omega
    case e1 =>
      intro A2 K2 w2 q1 q2 g
      rw [HBL1.out] at g ⊢
      have HBL2 := hid (show (bs1 ++ [Value.int .u8 248]).length = l.length + 1 by rw [List.length_append, HBL1.out, List.length_singleton])
      have G2 := hid (show Held w0 w2 (rOwn 5 (.slice A2 (l.length + 1) K2) (bs1 ++ [Value.int .u8 248]) :: B) from g)
      obtain ⟨bs2, hbs2⟩ : ∃ bs2, bs2 = bs1 ++ [Value.int .u8 248] := ⟨_, rfl⟩
      have HBS2 := hid hbs2
      rw [← hbs2] at HBL2 G2
      clear g hbs2 G1
      go_wp2_with fail
      refine wp_loop_rounds 2 ?_
      rw [rounds_succ]
      go_wp2_with (at_builtin; refine wpList_append_held [] _ rfl _ _ 87 rfl 5 i0 (.int .u8 0) 1 Tryz.underlying87 HI.out.1 HI.out.2.1 HI.out.2.2.1 HI.out.2.2.2 rfl _ _ rfl (G2.out.alloc _) _ (.slice (some ⟨w2.heap.size, 0, none⟩) 1 1) [.int .u8 n] rfl (own_built 5 w2 [.int .u8 n] (by simp [maxLen])).rd (by simp [Value.oneCell']) ?a2 ?b2 ?e2)
      case a2 => rw [HBL2.out, List.length_singleton]; omega
      case b2 => rw [HBL2.out, List.length_singleton]; unfold maxLen; omega
      case e2 =>
        intro A3 K3 w3 q1 q2 g
        rw [HBL2.out] at g ⊢
        have e : bytesV (l ++ numB n) = bs2 ++ [Value.int .u8 n] := by
          rw [HBS2.out, HBS1.out, bytesV_append, numB_one hn1 hn2, List.append_assoc]
          congr 1
          unfold bytesV
          simp
          omega
        have G3 := hid (show Held w0 w3 (rBytes (.slice A3 (l.length + 1 + 1) K3) (l ++ numB n) :: B) by unfold rBytes; rw [e]; exact g)
        clear g e
        go_wp2_with fail
        rw [rounds_succ]
        go_wp2_with fail
        go_ret
        exact ⟨_, rfl, G3.out⟩
end Go.Proofs.YtdbhccehbjhbpaaGreatDoor

/- wire.Number of numbers of three bytes; of any number below 2^16. -/
namespace Go.Proofs.YtdbhccehbjhbpaaGreatDoor
open Go.RowKit
open Slog (numB)

theorem bitLen_two {n : Nat} (h1 : 256 ≤ n) (h2 : n < 65536) : 9 ≤ Lib.bitLen n ∧ Lib.bitLen n ≤ 16 := by
  have s := Lib.bitLen_shift8 n (by omega) (by omega)
  have p := bitLen_pos (n := n / 256) (by omega)
  have l := Lib.bitLen_le8' (n / 256 : Nat) (by omega) (by omega)
  rw [Int.toNat_natCast] at l
  omega
set_option maxRecDepth 100000 in
set_option maxHeartbeats 2000000 in
theorem number_two {w0 w : World} {B : List Res} (h : Held w0 w B) (S : Nat → Prop) (v : Value) (l : List UInt8) (hv : Rd S w v (bytesV l)) (hl : l.length ≤ 1000000000000) (n : Nat) (hn1 : 256 ≤ n) (hn2 : n < 65536) :
    Calls Tryz.prog 36 #[v, .int .i64 n] w fun e w' => ∃ v', e = .returned v' ∧ Held w0 w' (rBytes v' (l ++ numB n) :: B) := by
  obtain ⟨i0, hi, hz0, hz1, hz2⟩ := info_parts Tryz.info5
  have HI := hid (And.intro hi (And.intro hz0 (And.intro hz1 hz2)))
  have HV := hid hv
  have HH := hid h
  have HL := hid (fun w => len64_any w (n : Int) (by omega) (by omega))
  obtain ⟨b, hb⟩ : ∃ b, b = Lib.bitLen ((n : Int)).toNat := ⟨_, rfl⟩
  have hb2 : 9 ≤ b ∧ b ≤ 16 := by rw [hb]; exact bitLen_two hn1 hn2
  rw [← hb] at HL
  have HK := hid (show ((b : Int) + 7) / 8 = 2 by omega)
  clear hi hz0 hz1 hz2 hv h hb
  go_enter Tryz.func36, Tryz.ntmps36
  go_wp2_with (at_builtin; refine wpList_append_rd _ rfl _ _ 87 rfl 5 i0 (.int .u8 0) 1 Tryz.underlying87 HI.out.1 HI.out.2.1 HI.out.2.2.1 HI.out.2.2.2 rfl (.slice none 0 0) 0 [] [] rfl (Own.nil _ _ _) S v (bytesV l) rfl HV.out (bytesV_one _) ?c1 ?c2 ?c3)
  case c1 => rw [bytesV_length]; omega
  case c2 => rw [bytesV_length]; unfold maxLen; omega
  case c3 =>
    intro v1 w1 F1 hown hu
    rw [bytesV_length] at hown
    have g1 := HH.out.more (R := rBytes v1 l) (own_bytes (by simpa using hown)) hu
    obtain ⟨A1, K1, rfl⟩ := hown.form
    obtain ⟨bs1, hbs1⟩ : ∃ bs1, bs1 = bytesV l := ⟨_, rfl⟩
    have G1 := hid (show Held w0 w1 (rOwn 5 (.slice A1 l.length K1) (bytesV l) :: B) from g1)
    have HBL1 := hid (bytesV_length l)
    rw [← hbs1] at G1 HBL1
    have HBS1 := hid hbs1
    clear g1 hown hu HV HH hbs1
    go_wp2_with (first | (go_at_call 68; refine (HL.out _).mono ?_; rintro e w9 ⟨rfl, hw⟩; rw [hw]; clear hw) | (at_builtin; rw [HK.out]; refine wpList_append_held [] _ rfl _ _ 87 rfl 5 i0 (.int .u8 0) 1 Tryz.underlying87 HI.out.1 HI.out.2.1 HI.out.2.2.1 HI.out.2.2.2 rfl _ _ rfl (G1.out.alloc _) _ (.slice (some ⟨w1.heap.size, 0, none⟩) 1 1) [.int .u8 (247 + 2)] rfl (own_built 5 w1 [.int .u8 (247 + 2)] (by simp [maxLen])).rd (by simp [Value.oneCell']) ?a1 ?b1 ?e1))
    case a1 => rw [HBL1.out, List.length_singleton]; omega
    case b1 => rw [HBL1.out, List.length_singleton]; unfold maxLen; omega
    case e1 =>
      intro A2 K2 w2 q1 q2 g
      rw [HBL1.out] at g ⊢
      have HBL2 := hid (show (bs1 ++ [Value.int .u8 249]).length = l.length + 1 by rw [List.length_append, HBL1.out, List.length_singleton])
      have G2 := hid (show Held w0 w2 (rOwn 5 (.slice A2 (l.length + 1) K2) (bs1 ++ [Value.int .u8 249]) :: B) from g)
      obtain ⟨bs2, hbs2⟩ : ∃ bs2, bs2 = bs1 ++ [Value.int .u8 249] := ⟨_, rfl⟩
      have HBS2 := hid hbs2
      rw [← hbs2] at HBL2 G2
      clear g hbs2 G1
      go_wp2_with fail
      refine wp_loop_rounds 3 ?_
      rw [rounds_succ]
      go_wp2_with (at_builtin; refine wpList_append_held [] _ rfl _ _ 87 rfl 5 i0 (.int .u8 0) 1 Tryz.underlying87 HI.out.1 HI.out.2.1 HI.out.2.2.1 HI.out.2.2.2 rfl _ _ rfl (G2.out.alloc _) _ (.slice (some ⟨w2.heap.size, 0, none⟩) 1 1) [.int .u8 ((n : Int) / 256)] rfl (own_built 5 w2 [.int .u8 ((n : Int) / 256)] (by simp [maxLen])).rd (by simp [Value.oneCell']) ?a2 ?b2 ?e2)
      case a2 => rw [HBL2.out, List.length_singleton]; omega
      case b2 => rw [HBL2.out, List.length_singleton]; unfold maxLen; omega
      case e2 =>
        intro A3 K3 w3 q1 q2 g
        rw [HBL2.out] at g ⊢
        have HBL3 := hid (show (bs2 ++ [Value.int .u8 ((n : Int) / 256)]).length = l.length + 1 + 1 by rw [List.length_append, HBL2.out, List.length_singleton])
        have G3 := hid (show Held w0 w3 (rOwn 5 (.slice A3 (l.length + 1 + 1) K3) (bs2 ++ [Value.int .u8 ((n : Int) / 256)]) :: B) from g)
        obtain ⟨bs3, hbs3⟩ : ∃ bs3, bs3 = bs2 ++ [Value.int .u8 ((n : Int) / 256)] := ⟨_, rfl⟩
        have HBS3 := hid hbs3
        rw [← hbs3] at HBL3 G3
        clear g hbs3 G2
        go_wp2_with fail
        rw [rounds_succ]
        go_wp2_with (at_builtin; refine wpList_append_held [] _ rfl _ _ 87 rfl 5 i0 (.int .u8 0) 1 Tryz.underlying87 HI.out.1 HI.out.2.1 HI.out.2.2.1 HI.out.2.2.2 rfl _ _ rfl (G3.out.alloc _) _ (.slice (some ⟨w3.heap.size, 0, none⟩) 1 1) [.int .u8 ((n : Int) % 256)] rfl (own_built 5 w3 [.int .u8 ((n : Int) % 256)] (by simp [maxLen])).rd (by simp [Value.oneCell']) ?a3 ?b3 ?e3)
        case a3 => rw [HBL3.out, List.length_singleton]; omega
        case b3 => rw [HBL3.out, List.length_singleton]; unfold maxLen; omega
        case e3 =>
          intro A4 K4 w4 q1 q2 g
          rw [HBL3.out] at g ⊢
          have e : bytesV (l ++ numB n) = bs3 ++ [Value.int .u8 ((n : Int) % 256)] := by
            rw [HBS3.out, HBS2.out, HBS1.out, bytesV_append, numB_two hn1 hn2, List.append_assoc, List.append_assoc]
            congr 1
            unfold bytesV
            simp
            omega
          have G4 := hid (show Held w0 w4 (rBytes (.slice A4 (l.length + 1 + 1 + 1) K4) (l ++ numB n) :: B) by unfold rBytes; rw [e]; exact g)
          clear g e
          go_wp2_with fail
          rw [rounds_succ]
          go_wp2_with fail
          go_ret
          exact ⟨_, rfl, G4.out⟩
/-- wire.Number of any number below 2^16, behind bytes. -/
theorem wnumber_held {w0 w : World} {B : List Res} (h : Held w0 w B) (S : Nat → Prop) (v : Value) (l : List UInt8) (hv : Rd S w v (bytesV l)) (hl : l.length ≤ 1000000000000) (n : Nat) (hn : n < 65536) :
    Calls Tryz.prog 36 #[v, .int .i64 n] w fun e w' => ∃ v', e = .returned v' ∧ Held w0 w' (rBytes v' (l ++ numB n) :: B) := by
  by_cases h1 : n ≤ 247
  · exact number_small h S v l hv hl n h1
  by_cases h2 : n < 256
  · exact number_one h S v l hv hl n (by omega) h2
  · exact number_two h S v l hv hl n (by omega) hn
end Go.Proofs.YtdbhccehbjhbpaaGreatDoor

/- append of a text behind bytes. -/
namespace Go.Proofs.YtdbhccehbjhbpaaGreatDoor
open Go.RowKit
open Slog (numB)
open Go.Lib (strCells strCells_length)

theorem strCells_sv (l : List UInt8) : strCells ⟨l.toArray⟩ = bytesV l := by unfold strCells bytesV; simp
section
variable {P : Program} (w : World)
/-- append of a text's bytes onto a row that is owned. -/
theorem run_append_text (t u ty e : TypeId) (i : TypeInfo) (ht : P.underlying t = some (.slice e)) (hu : P.underlying u = some .string) (hi : P.info? e = some i) (hz : i.zero = some (.int .u8 0))
    (hsize : i.size = 1) (hby : i.bytes = 1)
    (v : Value) (n : Nat) (xs : List Value) (F : List Nat) (hown : Own e 1 v n xs w F) (l : List UInt8)
    (h63 : n + l.length ≤ maxLen) (hbytes : n + l.length ≤ 140737488355328) :
    ∃ v' w' F', (Builtin.append_ #[t, u] ty #[v, sv l]).run P w = .ok v' w' ∧ Own e 1 v' (n + l.length) (xs ++ bytesV l) w' F' ∧ Upd w w' F F' := by
  obtain ⟨hrow, rfl⟩ := hown
  have hsz : (ByteArray.mk l.toArray).size = l.length := by simp [ByteArray.size]
  obtain ⟨v', w', hrun, h2, h3, h4⟩ := Go.Lib.run_append_own_string (P := P) w 0 t u ty e i ht hu hi hz hsize hby v n xs hrow ⟨l.toArray⟩ (by rw [hsz]; exact h63) (by rw [hsz]; exact hbytes) (Nat.zero_le _)
  have h5 : v'.ownBlock = v.ownBlock ∨ v'.ownBlock = some w.heap.size := by
    have hs63 : n + l.length ≤ 9223372036854775807 := by unfold maxLen at h63; omega
    have hxl : xs.length = n := by simpa using hrow.1
    rcases hrow.2 with ⟨rfl, rfl⟩ | ⟨g, cap, cur, rfl, hbg, hg, hnc, hcm, hcs, htake⟩
    · by_cases hm : l.length = 0
      · left
        rw [h4.2 ⟨rfl, by rw [hsz]; exact hm⟩]
      · right
        have hr := run_append_nil_string (P := P) w t u ty e i (.int .u8 0) ht hu hi hz ⟨l.toArray⟩ (by rw [hsz]; omega) (by rw [hsz]; omega) (by rw [hby, hsz]; omega)
        rw [hrun] at hr
        injection hr with e1 e2
        rw [e1]
        rfl
    · by_cases hroom : n + l.length ≤ cap
      · left
        have hcs' : cur.size = cap := by simpa using hcs
        have hr := Go.Lib.run_append_room_string (P := P) (ty := ty) w t u e i ht hu hi hsize g n cap cur hg ⟨l.toArray⟩ (by rw [hsz]; exact hroom) (by rw [hsz]; omega)
        rw [hrun] at hr
        injection hr with e1 e2
        rw [e1]
        rfl
      · right
        have holds : ∀ j u, xs[j]? = some u → w.cell? ((⟨g, 0, none⟩ : Addr).add j) = some u := hrow.cells (g := g) rfl
        have hr := Go.Lib.run_append_grow_string (P := P) (ty := ty) w t u e i (.int .u8 0) ht hu hi hz ⟨g, 0, none⟩ n cap xs (by rw [hsize]; simpa using hxl) holds ⟨l.toArray⟩ (by rw [hsz]; omega) (by rw [hsz]; omega) (by rw [hby, hsz]; exact growslice_fits (by omega) (by omega))
        rw [hrun] at hr
        injection hr with e1 e2
        rw [e1]
        rfl
  rw [strCells_sv, hsz] at h2
  refine ⟨v', w', _, hrun, ⟨h2, rfl⟩, Mod.of_grownBy h3 (fun k hk _ => by simpa using hk), by cases v'.ownBlock <;> simp, fun b hb => ?_⟩
  rcases h5 with h5 | h5
  · rw [h5] at hb; exact .inl hb
  · rw [h5] at hb; simp at hb; exact .inr (by omega)
end
theorem wpList_append_text {P : Program} {w0 w : World} {ops : Array Oper} {rest : List Oper} {o : Oper} {a : Act} {Q : Exit → Act → World → Prop} (l1 l2 : List Res) (hgd : o.guard = none) (s x : Operand) (t u : TypeId)
    (ho : o.op = .call { callee := .builtin .append, args := #[s, x], argTypes := #[t, u] })
    (e : TypeId) (i : TypeInfo) (ht : P.underlying t = some (.slice e)) (hu : P.underlying u = some .string) (hi : P.info? e = some i) (hz : i.zero = some (.int .u8 0))
    (hsize : i.size = 1) (hby : i.bytes = 1)
    (v : Value) (xs : List Value) (hs : a.eval s = v) (hh : Held w0 w (l1 ++ rOwn e v xs :: l2))
    (l : List UInt8) (hx : a.eval x = sv l)
    (h63 : xs.length + l.length ≤ maxLen) (hbytes : xs.length + l.length ≤ 140737488355328)
    (h : ∀ A c w', Held w0 w' (l1 ++ rOwn e (.slice A (xs.length + l.length) c) (xs ++ bytesV l) :: l2) → wpList P ops Q rest (a.put o.dst (.slice A (xs.length + l.length) c)) w') : wpList P ops Q (o :: rest) a w := by
  refine wpList_plain hgd fun K hK => ?_
  obtain ⟨F, hR, _, _, hback⟩ := hh.use
  obtain ⟨v', w', F', hrun, h2, h3⟩ := run_append_text (P := P) w t u o.type e i ht hu hi hz hsize hby v xs.length xs F hR l h63 hbytes
  obtain ⟨A, c, rfl, hc, hm, _⟩ := h2.rd
  have hl : (xs ++ bytesV l).length = xs.length + l.length := by rw [List.length_append, bytesV_length]
  unfold Oper.wp execOp
  simp only [ho, resolve, invoke, builtin, Sem.run_bind, Sem.run_pure, Result.andThen_ok, List.map_toArray, List.map_cons, List.map_nil, hs, hx, hrun]
  rw [hl]
  refine hK _ _ (h A c w' ?_)
  have := hback w' (rOwn e (.slice A (xs.length + l.length) c) (xs ++ bytesV l)) F' (by
    show Own e 1 _ (xs ++ bytesV l).length (xs ++ bytesV l) w' F'
    rw [hl] at h2 ⊢; exact h2) h3
  exact this

end Go.Proofs.YtdbhccehbjhbpaaGreatDoor

/- wire.Text behind bytes; kvstore's told. -/
namespace Go.Proofs.YtdbhccehbjhbpaaGreatDoor
open Go.RowKit
open Slog (numB)

set_option maxRecDepth 100000 in
set_option maxHeartbeats 2000000 in
/-- wire.Text, behind bytes. -/
theorem text_held {w0 w : World} {B : List Res} (h : Held w0 w B) (S : Nat → Prop) (v : Value) (l : List UInt8) (hv : Rd S w v (bytesV l)) (hl : l.length ≤ 1000000000000) (s : List UInt8) (hs : s.length < 65536) :
    Calls Tryz.prog 38 #[v, sv s] w fun e w' => ∃ v', e = .returned v' ∧ Held w0 w' (rBytes v' (l ++ (numB s.length ++ s)) :: B) := by
  obtain ⟨i0, hi, hz0, hz1, hz2⟩ := info_parts Tryz.info5
  have HI := hid (And.intro hi (And.intro hz0 (And.intro hz1 hz2)))
  unfold sv
  have HN := hid (wnumber_held h S v l hv hl s.length hs)
  have hnl := Kv.numB_len hs
  have HL := hid (show (bytesV (l ++ numB s.length)).length + s.length ≤ 1000000070000 by rw [bytesV_length, List.length_append]; omega)
  have hsz : (ByteArray.mk s.toArray).size = s.length := by simp [ByteArray.size]
  have HE := hid (show bytesV (l ++ numB s.length) ++ bytesV s = bytesV (l ++ (numB s.length ++ s)) by rw [← bytesV_append, List.append_assoc])
  generalize l ++ (numB s.length ++ s) = r1 at *
  generalize l ++ numB s.length = r0 at *
  clear hi hz0 hz1 hz2 hv h hnl
  go_enter Tryz.func38, Tryz.ntmps38
  go_wp2_with (first
    | (go_at_call 36; refine HN.out.mono ?_; rintro e w1 ⟨v1, rfl, g1⟩; obtain ⟨A1, c1, rfl, hc11, hc12⟩ := Held.form (l1 := []) g1; have G1 := hid g1; clear g1)
    | (at_builtin; refine wpList_append_text [] _ rfl _ _ 87 9 rfl 5 i0 Tryz.underlying87 Tryz.underlying9 HI.out.1 HI.out.2.1 HI.out.2.2.1 HI.out.2.2.2 _ (bytesV r0) rfl G1.out s rfl ?c1 ?c2 ?c3))
  case c1 => have := HL.out; unfold maxLen; omega
  case c2 => have := HL.out; omega
  case c3 =>
    intro A2 c2 w2 g2
    have G2 := hid (show Held w0 w2 (rBytes (.slice A2 ((bytesV r0).length + s.length) c2) r1 :: B) by unfold rBytes; rw [← HE.out]; exact g2)
    clear g2
    go_wp2_with fail
    go_ret
    exact ⟨_, rfl, G2.out⟩

set_option maxRecDepth 100000 in
set_option maxHeartbeats 2000000 in
/-- kvstore's told, behind bytes that are owned. -/
theorem told_held {w0 w : World} {B : List Res} {v : Value} {l : List UInt8} (h : Held w0 w (rBytes v l :: B)) (hl : l.length ≤ 100000000000) (gone : Bool) (s : List UInt8) (hs : s.length < 65536) :
    Calls Tryz.prog 37 #[v, .bool gone, sv s] w fun e w' => ∃ v', e = .returned v' ∧ Held w0 w' (rBytes v' (l ++ Kv.told gone s) :: B) := by
  obtain ⟨i0, hi, hz0, hz1, hz2⟩ := info_parts Tryz.info5
  have HI := hid (And.intro hi (And.intro hz0 (And.intro hz1 hz2)))
  obtain ⟨A0, c0, rfl, hc1, hc2⟩ := Held.form (l1 := []) h
  obtain ⟨bs, hbs⟩ : ∃ bs, bs = bytesV l := ⟨_, rfl⟩
  have HBL := hid (bytesV_length l)
  have HBS := hid hbs
  have G0 := hid (show Held w0 w (rOwn 5 (.slice A0 l.length c0) bs :: B) by rw [hbs]; exact h)
  rw [← hbs] at HBL
  clear hi hz0 hz1 hz2 h hbs
  cases gone with
  | true =>
    have HE := hid (show bytesV (l ++ Kv.told true s) = bs ++ [.int .u8 1] by rw [HBS.out, bytesV_append]; rfl)
    generalize l ++ Kv.told true s = r1 at *
    generalize sv s = sx at *
    go_enter Tryz.func37, Tryz.ntmps37
    go_wp2_with (at_builtin; refine wpList_append_held [] _ rfl _ _ 87 rfl 5 i0 (.int .u8 0) 1 Tryz.underlying87 HI.out.1 HI.out.2.1 HI.out.2.2.1 HI.out.2.2.2 rfl _ _ rfl (G0.out.alloc _) _ (.slice (some ⟨w.heap.size, 0, none⟩) 1 1) [.int .u8 1] rfl (own_built 5 w [.int .u8 1] (by simp [maxLen])).rd (by simp [Value.oneCell']) ?c1 ?c2 ?c3)
    case c1 => rw [HBL.out, List.length_singleton]; omega
    case c2 => rw [HBL.out, List.length_singleton]; unfold maxLen; omega
    case c3 =>
      intro A2 c2 w2 q1 q2 g2
      have G2 := hid (show Held w0 w2 (rBytes (.slice A2 (bs.length + [Value.int .u8 1].length) c2) r1 :: B) by unfold rBytes; rw [HE.out]; exact g2)
      clear g2
      go_wp2_with fail
      go_ret
      exact ⟨_, rfl, G2.out⟩
  | false =>
    have HE := hid (show bytesV (l ++ [0]) = bs ++ [.int .u8 0] by rw [HBS.out, bytesV_append]; rfl)
    have HE2 := hid (show (l ++ [0]) ++ (numB s.length ++ s) = l ++ Kv.told false s by unfold Kv.told; simp)
    have HT := hid (fun w1 v1 (g1 : Held w0 w1 (rBytes v1 (l ++ [0]) :: B)) => text_held g1 (fun _ => True) v1 (l ++ [0]) (Held.bytes (l1 := []) g1) (by simp; omega) s hs)
    rw [HE2.out] at HT
    generalize l ++ Kv.told false s = r1 at *
    generalize l ++ [0] = r0 at *
    generalize sv s = sx at *
    clear HE2
    go_enter Tryz.func37, Tryz.ntmps37
    go_wp2_with (first
      | (go_at_call 38; refine (HT.out _ _ G2.out).mono ?_; rintro e w3 ⟨v3, rfl, g3⟩; have G3 := hid g3; clear g3)
      | (at_builtin; refine wpList_append_held [] _ rfl _ _ 87 rfl 5 i0 (.int .u8 0) 1 Tryz.underlying87 HI.out.1 HI.out.2.1 HI.out.2.2.1 HI.out.2.2.2 rfl _ _ rfl (G0.out.alloc _) _ (.slice (some ⟨w.heap.size, 0, none⟩) 1 1) [.int .u8 0] rfl (own_built 5 w [.int .u8 0] (by simp [maxLen])).rd (by simp [Value.oneCell']) ?c1 ?c2 ?c3))
    case c1 => rw [HBL.out, List.length_singleton]; omega
    case c2 => rw [HBL.out, List.length_singleton]; unfold maxLen; omega
    case c3 =>
      intro A2 c2 w2 q1 q2 g2
      have G2 := hid (show Held w0 w2 (rBytes (.slice A2 (bs.length + [Value.int .u8 0].length) c2) r0 :: B) by unfold rBytes; rw [HE.out]; exact g2)
      clear g2
      go_wp2_with (first
        | (go_at_call 38; refine (HT.out _ _ G2.out).mono ?_; rintro e w3 ⟨v3, rfl, g3⟩; have G3 := hid g3.pull1.drop0; clear g3))
      go_ret
      exact ⟨_, rfl, G3.out⟩
end Go.Proofs.YtdbhccehbjhbpaaGreatDoor
