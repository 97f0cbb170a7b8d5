/- wire: check sums. -/
import Derived.Test.YtdbhccehbjhbpaaGreatDoorM3
import Derived.Test.YtdbhccehbjhbpaaGreatDoorM5
import Derived.Laws.BitsLemmas
namespace Go.Proofs.YtdbhccehbjhbpaaGreatDoor
open Go.RowKit
open Slog (crcBit crcByte crc word4)

theorem wraps32 (n : Int) (h₀ : 0 ≤ n) (h₁ : n < 2 ^ 32) : IntKind.u32.wrap n = n := by rw [IntKind.wrap_u32]; omega
theorem xor_u32 (a b : Nat) (ha : a < 4294967296) (hb : b < 4294967296) : bits .xor .u32 (a : Int) (b : Int) = ((a ^^^ b : Nat) : Int) := by
  have hx : a ^^^ b < 2 ^ 32 := Nat.xor_lt_two_pow (by omega) (by omega)
  have h1 : (BitVec.ofInt 32 (a : Int)).toNat = a := by
    rw [BitVec.ofInt_natCast, BitVec.toNat_ofNat]; exact Nat.mod_eq_of_lt (by omega)
  have h2 : (BitVec.ofInt 32 (b : Int)).toNat = b := by
    rw [BitVec.ofInt_natCast, BitVec.toNat_ofNat]; exact Nat.mod_eq_of_lt (by omega)
  show IntKind.u32.wrap ((BitVec.ofInt 32 (a : Int) ^^^ BitVec.ofInt 32 (b : Int)).toNat : Int) = _
  rw [BitVec.toNat_xor, h1, h2]
  exact wraps32 _ (by omega) (by omega)
theorem and_u32 (a b : Nat) (ha : a < 4294967296) (hb : b < 4294967296) : bits .and .u32 (a : Int) (b : Int) = ((a &&& b : Nat) : Int) :=
  (bits_nat .u32 32 (by decide) wraps32 a b (by omega) (by omega)).1
theorem crcBit_lt {c : Nat} (h : c < 4294967296) : crcBit c < 4294967296 := by
  unfold crcBit
  split
  · exact Nat.xor_lt_two_pow (n := 32) (by omega) (by omega)
  · omega
/-- one bit's step, as the code computes it. -/
theorem crc_step (c : Nat) (h : c < 4294967296) : bits .xor .u32 ((c : Int) / 2) (bits .and .u32 2197175160 (-(bits .and .u32 (c : Int) 1) % 4294967296)) = (crcBit c : Nat) := by
  have e1 : bits .and .u32 (c : Int) 1 = ((c % 2 : Nat) : Int) := by
    have := and_u32 c 1 h (by omega)
    rw [show ((1 : Nat) : Int) = 1 from rfl] at this
    rw [this, Nat.and_one_is_mod]
  rw [e1]
  unfold crcBit
  rcases Nat.mod_two_eq_zero_or_one c with h2 | h2
  · rw [h2, if_neg (by omega), show (-((0 : Nat) : Int)) % 4294967296 = ((0 : Nat) : Int) by decide]
    have := and_u32 2197175160 0 (by omega) (by omega)
    rw [show ((2197175160 : Nat) : Int) = 2197175160 from rfl, Nat.and_zero] at this
    rw [this, show (c : Int) / 2 = ((c / 2 : Nat) : Int) by omega, xor_u32 _ _ (by omega) (by omega), Nat.xor_zero]
  · rw [h2, if_pos rfl, show (-((1 : Nat) : Int)) % 4294967296 = ((4294967295 : Nat) : Int) by decide]
    have := and_u32 2197175160 4294967295 (by omega) (by omega)
    rw [show ((2197175160 : Nat) : Int) = 2197175160 from rfl, show 2197175160 &&& 4294967295 = 2197175160 by decide] at this
    rw [this, show (c : Int) / 2 = ((c / 2 : Nat) : Int) by omega, show (2197175160 : Nat) = 2197175160 from rfl, xor_u32 _ _ (by omega) (by omega)]
theorem crcBits_lt {c : Nat} (h : c < 4294967296) : ∀ j, Nat.repeat crcBit j c < 4294967296
  | 0 => h
  | j + 1 => crcBit_lt (crcBits_lt h j)
theorem crcByte_lt {c : Nat} (h : c < 4294967296) (x : UInt8) : crcByte c x < 4294967296 := by
  have hx := x.toNat_lt
  exact crcBits_lt (c := c ^^^ x.toNat) (Nat.xor_lt_two_pow (n := 32) (by omega) (by omega)) 8
theorem crcs_lt {c : Nat} (h : c < 4294967296) (l : List UInt8) : l.foldl crcByte c < 4294967296 := by
  induction l generalizing c with
  | nil => exact h
  | cons x l ih => exact ih (crcByte_lt h x)

set_option maxRecDepth 100000 in
set_option maxHeartbeats 2000000 in
theorem sum_any (S : Nat → Prop) (w : World) (v : Value) (l : List UInt8) (hv : Rd S w v (bytesV l)) :
    Calls Tryz.prog 170 #[v] w fun e w' => e = .returned (.int .u32 (crc l : Nat)) ∧ w' = w := by
  obtain ⟨A, c, rfl, hc, hm, hA⟩ := id hv
  rw [bytesV_length] at hc ⊢
  unfold maxLen at hm
  have HA := hid hA
  clear hv hA
  go_enter Tryz.func170, Tryz.ntmps170
  go_wp2_with fail
  go_loopw [3, 8] (fun z i wr => ∃ k : Nat, k ≤ l.length ∧ i = .int .i64 k ∧ z = .int .u32 (((l.take k).foldl crcByte 4294967295 : Nat) : Int) ∧ wr = w) (fun _ i _ => l.length - (intOf i).toNat)
  case atStart => exact ⟨0, Nat.zero_le _, rfl, rfl, rfl⟩
  case round =>
    obtain ⟨k, hk, rfl, rfl, rfl⟩ := hrel
    have hcl := crcs_lt (c := 4294967295) (by omega) (l.take k)
    by_cases hlt : k < l.length
    · have hne : bytesV l ≠ [] := by intro h; have := congrArg List.length h; rw [bytesV_length] at this; rw [this] at hlt; simp at hlt
      obtain ⟨b, off, rfl, -, hc1⟩ := HA.out hne
      have d1 : wr.cell? ⟨b, off + k, none⟩ = some (.int .u8 l[k].toNat) := hc1 k _ (by rw [bytesV_get, List.getElem?_eq_getElem hlt]; rfl)
      have hx := l[k].toNat_lt
      have HN := hid (show (l.take (k + 1)).foldl crcByte 4294967295 = crcByte ((l.take k).foldl crcByte 4294967295) l[k] by rw [List.take_succ_eq_append_getElem hlt, List.foldl_append]; rfl)
      generalize (l.take k).foldl crcByte 4294967295 = c0 at *
      generalize hl : l[k] = x at *
      clear hl
      have h0 : (0 : Int) ≤ (k : Int) := by omega
      have h1 : (k : Int) < (l.length : Int) := by omega
      clear hc1 hne
      go_wp2_with fail
      have e1 : bits .xor .u32 (c0 : Int) (x.toNat : Int) = ((c0 ^^^ x.toNat : Nat) : Int) := xor_u32 _ _ hcl (by omega)
      rw [e1]
      have hcx : c0 ^^^ x.toNat < 4294967296 := Nat.xor_lt_two_pow (n := 32) (by omega) (by omega)
      have HC : crcByte c0 x = Nat.repeat crcBit 8 (c0 ^^^ x.toNat) := rfl
      rw [HC] at HN
      clear HC e1
      generalize c0 ^^^ x.toNat = c1 at *
      go_loopw [3, 16] (fun z i wv => ∃ j : Nat, j ≤ 8 ∧ i = .int .i64 j ∧ z = .int .u32 ((Nat.repeat crcBit j c1 : Nat) : Int) ∧ wv = wr) (fun _ i _ => 8 - (intOf i).toNat)
      case atStart => exact ⟨0, by omega, rfl, rfl, rfl⟩
      case round =>
        obtain ⟨j, hj, rfl, rfl, rfl⟩ := hrel
        have hjl := crcBits_lt hcx j
        have HS := hid (show crcBit (Nat.repeat crcBit j c1) = Nat.repeat crcBit (j + 1) c1 from rfl)
        obtain ⟨c2, HE⟩ : ∃ c2, Hid (Nat.repeat crcBit j c1 = c2) := ⟨_, rfl⟩
        rw [HE.out] at hjl HS
        rw [HE.out]
        by_cases hj8 : j < 8
        · have h0 : (0 : Int) ≤ (j : Int) := by omega
          go_wp2_with fail
          refine ⟨⟨j + 1, by omega, by simp, ?_, trivial⟩, by show 8 - ((j : Int) + 1).toNat < 8 - (j : Int).toNat; omega⟩
          rw [← HS.out, crc_step c2 hjl]
        · obtain rfl : j = 8 := by omega
          go_wp2_with fail
          refine ⟨⟨k + 1, by omega, by simp, ?_, trivial⟩, by show l.length - ((k : Int) + 1).toNat < l.length - (k : Int).toNat; omega⟩
          rw [HN.out, HE.out]
    · have hk2 : l.take k = l := List.take_of_length_le (by omega)
      rw [hk2] at hcl
      simp only [hk2]
      have HR := hid (show crc l = 4294967295 - l.foldl crcByte 4294967295 from rfl)
      generalize l.foldl crcByte 4294967295 = c0 at *
      go_wp2_with fail
      go_ret
      refine ⟨?_, rfl⟩
      rw [HR.out]
      have e1 := xor_u32 4294967295 c0 (by omega) hcl
      rw [show ((4294967295 : Nat) : Int) = 4294967295 from rfl] at e1
      have e2 : 4294967295 ^^^ c0 = 4294967295 - c0 := by
        apply Nat.eq_of_testBit_eq
        intro i
        rw [show 4294967295 = 2 ^ 32 - 1 from rfl, Nat.testBit_xor, Nat.testBit_two_pow_sub_one, show 2 ^ 32 - 1 - c0 = 2 ^ 32 - (c0 + 1) by omega, Nat.testBit_two_pow_sub_succ (by omega)]
        by_cases hi : i < 32
        · simp [hi]
        · have : c0.testBit i = false := Nat.testBit_lt_two_pow (Nat.lt_of_lt_of_le (show c0 < 2 ^ 32 by omega) (Nat.pow_le_pow_right (by decide) (by omega)))
          simp [hi, this]
      rw [← e2, ← e1]
      rfl
end Go.Proofs.YtdbhccehbjhbpaaGreatDoor
