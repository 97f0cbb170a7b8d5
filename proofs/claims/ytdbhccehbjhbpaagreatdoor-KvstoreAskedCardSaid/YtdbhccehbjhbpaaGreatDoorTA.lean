/- kvstore: a law. (Several texts in one file, by mz.py.) -/
import Derived.Test.YtdbhccehbjhbpaaGreatDoorM3
import Derived.Test.YtdbhccehbjhbpaaGreatDoorM5
import Derived.Laws.BitsLemmas
import Derived.Lib.AppendZeros

/- wire: check sums. -/
namespace Go.Proofs.YtdbhccehbjhbpaaGreatDoor
open Go.RowKit
open Slog (crcBit crcByte crc word4)

theorem wraps32 (n : Int) (h₀ : 0 ≤ n) (h₁ : n < 2 ^ 32) : IntKind.u32.wrap n = n := by rw [IntKind.wrap_u32]; omega
theorem xor_u32 (a b : Nat) (ha : a < 4294967296) (hb : b < 4294967296) : bits .xor .u32 (a : Int) (b : Int) = ((a ^^^ b : Nat) : Int) := by
  have hx : a ^^^ b < 2 ^ 32 := Nat.xor_lt_two_pow (by omega) (by omega)
  have h1 : (BitVec.ofInt 32 (a : Int)).toNat = a := by
    rw [BitVec.ofInt_natCast, BitVec.toNat_ofNat]; exact Nat.mod_eq_of_lt (by omega)
  have h2 : (BitVec.ofInt 32 (b : Int)).toNat = b := by
    rw [BitVec.ofInt_natCast, BitVec.toNat_ofNat]; exact Nat.mod_eq_of_lt (by omega)
  show IntKind.u32.wrap ((BitVec.ofInt 32 (a : Int) ^^^ BitVec.ofInt 32 (b : Int)).toNat : Int) = _
  rw [BitVec.toNat_xor, h1, h2]
  exact wraps32 _ (by omega) (by omega)
theorem and_u32 (a b : Nat) (ha : a < 4294967296) (hb : b < 4294967296) : bits .and .u32 (a : Int) (b : Int) = ((a &&& b : Nat) : Int) :=
  (bits_nat .u32 32 (by decide) wraps32 a b (by omega) (by omega)).1
theorem crcBit_lt {c : Nat} (h : c < 4294967296) : crcBit c < 4294967296 := by
  unfold crcBit
  split
  · exact Nat.xor_lt_two_pow (n := 32) (by omega) (by omega)
  · omega
/-- one bit's step, as the code computes it. -/
theorem crc_step (c : Nat) (h : c < 4294967296) : bits .xor .u32 ((c : Int) / 2) (bits .and .u32 2197175160 (-(bits .and .u32 (c : Int) 1) % 4294967296)) = (crcBit c : Nat) := by
  have e1 : bits .and .u32 (c : Int) 1 = ((c % 2 : Nat) : Int) := by
    have := and_u32 c 1 h (by omega)
    rw [show ((1 : Nat) : Int) = 1 from rfl] at this
    rw [this, Nat.and_one_is_mod]
  rw [e1]
  unfold crcBit
  rcases Nat.mod_two_eq_zero_or_one c with h2 | h2
  · rw [h2, if_neg (by omega), show (-((0 : Nat) : Int)) % 4294967296 = ((0 : Nat) : Int) by decide]
    have := and_u32 2197175160 0 (by omega) (by omega)
    rw [show ((2197175160 : Nat) : Int) = 2197175160 from rfl, Nat.and_zero] at this
    rw [this, show (c : Int) / 2 = ((c / 2 : Nat) : Int) by omega, xor_u32 _ _ (by omega) (by omega), Nat.xor_zero]
  · rw [h2, if_pos rfl, show (-((1 : Nat) : Int)) % 4294967296 = ((4294967295 : Nat) : Int) by decide]
    have := and_u32 2197175160 4294967295 (by omega) (by omega)
    rw [show ((2197175160 : Nat) : Int) = 2197175160 from rfl, show 2197175160 &&& 4294967295 = 2197175160 by decide] at this
    rw [this, show (c : Int) / 2 = ((c / 2 : Nat) : Int) by omega, show (2197175160 : Nat) = 2197175160 from rfl, xor_u32 _ _ (by omega) (by omega)]
theorem crcBits_lt {c : Nat} (h : c < 4294967296) : ∀ j, Nat.repeat crcBit j c < 4294967296
  | 0 => h
  | j + 1 => crcBit_lt (crcBits_lt h j)
theorem crcByte_lt {c : Nat} (h : c < 4294967296) (x : UInt8) : crcByte c x < 4294967296 := by
  have hx := x.toNat_lt
  exact crcBits_lt (c := c ^^^ x.toNat) (Nat.xor_lt_two_pow (n := 32) (by omega) (by omega)) 8
theorem crcs_lt {c : Nat} (h : c < 4294967296) (l : List UInt8) : l.foldl crcByte c < 4294967296 := by
  induction l generalizing c with
  | nil => exact h
  | cons x l ih => exact ih (crcByte_lt h x)

set_option maxRecDepth 100000 in
set_option maxHeartbeats 2000000 in
theorem sum_any (S : Nat → Prop) (w : World) (v : Value) (l : List UInt8) (hv : Rd S w v (bytesV l)) :
    Calls Tryz.prog 170 #[v] w fun e w' => e = .returned (.int .u32 (crc l : Nat)) ∧ w' = w := by
  obtain ⟨A, c, rfl, hc, hm, hA⟩ := id hv
  rw [bytesV_length] at hc ⊢
  unfold maxLen at hm
  have HA := hid hA
  clear hv hA
  go_enter Tryz.func170, Tryz.ntmps170
  go_wp2_with fail
  go_loopw [3, 8] (fun z i wr => ∃ k : Nat, k ≤ l.length ∧ i = .int .i64 k ∧ z = .int .u32 (((l.take k).foldl crcByte 4294967295 : Nat) : Int) ∧ wr = w) (fun _ i _ => l.length - (intOf i).toNat)
  case atStart => exact ⟨0, Nat.zero_le _, rfl, rfl, rfl⟩
  case round =>
    obtain ⟨k, hk, rfl, rfl, rfl⟩ := hrel
    have hcl := crcs_lt (c := 4294967295) (by omega) (l.take k)
    by_cases hlt : k < l.length
    · have hne : bytesV l ≠ [] := by intro h; have := congrArg List.length h; rw [bytesV_length] at this; rw [this] at hlt; simp at hlt
      obtain ⟨b, off, rfl, -, hc1⟩ := HA.out hne
      have d1 : wr.cell? ⟨b, off + k, none⟩ = some (.int .u8 l[k].toNat) := hc1 k _ (by rw [bytesV_get, List.getElem?_eq_getElem hlt]; rfl)
      have hx := l[k].toNat_lt
      have HN := hid (show (l.take (k + 1)).foldl crcByte 4294967295 = crcByte ((l.take k).foldl crcByte 4294967295) l[k] by rw [List.take_succ_eq_append_getElem hlt, List.foldl_append]; rfl)
      generalize (l.take k).foldl crcByte 4294967295 = c0 at *
      generalize hl : l[k] = x at *
      clear hl
      have h0 : (0 : Int) ≤ (k : Int) := by omega
      have h1 : (k : Int) < (l.length : Int) := by omega
      clear hc1 hne
      go_wp2_with fail
      have e1 : bits .xor .u32 (c0 : Int) (x.toNat : Int) = ((c0 ^^^ x.toNat : Nat) : Int) := xor_u32 _ _ hcl (by omega)
      rw [e1]
      have hcx : c0 ^^^ x.toNat < 4294967296 := Nat.xor_lt_two_pow (n := 32) (by omega) (by omega)
      have HC : crcByte c0 x = Nat.repeat crcBit 8 (c0 ^^^ x.toNat) := rfl
      rw [HC] at HN
      clear HC e1
      generalize c0 ^^^ x.toNat = c1 at *
      go_loopw [3, 16] (fun z i wv => ∃ j : Nat, j ≤ 8 ∧ i = .int .i64 j ∧ z = .int .u32 ((Nat.repeat crcBit j c1 : Nat) : Int) ∧ wv = wr) (fun _ i _ => 8 - (intOf i).toNat)
      case atStart => exact ⟨0, by omega, rfl, rfl, rfl⟩
      case round =>
        obtain ⟨j, hj, rfl, rfl, rfl⟩ := hrel
        have hjl := crcBits_lt hcx j
        have HS := hid (show crcBit (Nat.repeat crcBit j c1) = Nat.repeat crcBit (j + 1) c1 from rfl)
        obtain ⟨c2, HE⟩ : ∃ c2, Hid (Nat.repeat crcBit j c1 = c2) := ⟨_, rfl⟩
        rw [HE.out] at hjl HS
        rw [HE.out]
        by_cases hj8 : j < 8
        · have h0 : (0 : Int) ≤ (j : Int) := by omega
          go_wp2_with fail
          refine ⟨⟨j + 1, by omega, by simp, ?_, trivial⟩, by show 8 - ((j : Int) + 1).toNat < 8 - (j : Int).toNat; omega⟩
          rw [← HS.out, crc_step c2 hjl]
        · obtain rfl : j = 8 := by omega
          go_wp2_with fail
          refine ⟨⟨k + 1, by omega, by simp, ?_, trivial⟩, by show l.length - ((k : Int) + 1).toNat < l.length - (k : Int).toNat; omega⟩
          rw [HN.out, HE.out]
    · have hk2 : l.take k = l := List.take_of_length_le (by omega)
      rw [hk2] at hcl
      simp only [hk2]
      have HR := hid (show crc l = 4294967295 - l.foldl crcByte 4294967295 from rfl)
      generalize l.foldl crcByte 4294967295 = c0 at *
      go_wp2_with fail
      go_ret
      refine ⟨?_, rfl⟩
      rw [HR.out]
      have e1 := xor_u32 4294967295 c0 (by omega) hcl
      rw [show ((4294967295 : Nat) : Int) = 4294967295 from rfl] at e1
      have e2 : 4294967295 ^^^ c0 = 4294967295 - c0 := by
        apply Nat.eq_of_testBit_eq
        intro i
        rw [show 4294967295 = 2 ^ 32 - 1 from rfl, Nat.testBit_xor, Nat.testBit_two_pow_sub_one, show 2 ^ 32 - 1 - c0 = 2 ^ 32 - (c0 + 1) by omega, Nat.testBit_two_pow_sub_succ (by omega)]
        by_cases hi : i < 32
        · simp [hi]
        · have : c0.testBit i = false := Nat.testBit_lt_two_pow (Nat.lt_of_lt_of_le (show c0 < 2 ^ 32 by omega) (Nat.pow_le_pow_right (by decide) (by omega)))
          simp [hi, this]
      rw [← e2, ← e1]
      rfl
end Go.Proofs.YtdbhccehbjhbpaaGreatDoor

/- wire: words, numbers of one byte, frames. -/
namespace Go.Proofs.YtdbhccehbjhbpaaGreatDoor
open Go.RowKit
open Slog (crc word4 head3 frame framed numB)

theorem own_built (e : TypeId) (w : World) (xs : List Value) (hx : xs.length ≤ maxLen) : Own e 1 (.slice (some ⟨w.heap.size, 0, none⟩) xs.length xs.length) xs.length xs (w.alloc (.cells xs.toArray e)) [w.heap.size] := by
  refine ⟨⟨by simp, .inr ⟨w.heap.size, xs.length, xs.toArray, rfl, Nat.zero_le _, heap_alloc_new w _, Nat.le_refl _, hx, by simp, by simp⟩⟩, rfl⟩
theorem upd_built (w : World) (o : Obj) : Upd w (w.alloc o) [] [w.heap.size] := ⟨(Mod.refl _ w).alloc _, by simp, fun b hb => .inr (by simp at hb; omega)⟩

def wordV (n : Nat) : Value := .agg (bytesV (word4 n)).toArray

set_option maxRecDepth 100000 in
theorem word_any (w : World) (n : Nat) (hn : n < 4294967296) :
    Calls Tryz.prog 169 #[.int .u32 n] w fun e w' => e = .returned (wordV n) ∧ Mod (fun _ => False) w w' := by
  have HW := hid (show (#[.int .u8 ((n : Int) / 16777216), .int .u8 ((n : Int) / 65536 % 256), .int .u8 ((n : Int) / 256 % 256), .int .u8 ((n : Int) % 256)] : Array Value) = (bytesV (word4 n)).toArray by
    unfold bytesV word4
    simp
    omega)
  go_enter Tryz.func169, Tryz.ntmps169
  go_wp2_with fail
  refine bodyPost_ret (v := wordV n) ?_ rfl ?_
  · have hl := run_loadVar_row (P := Tryz.prog) (w.alloc (.cells (bytesV (word4 n)).toArray 231)) w.heap.size 231 231 (bytesV (word4 n)).toArray (0, 0) _ (heap_alloc_new w _) Tryz.underlying231 rfl (by rw [show (bytesV (word4 n)).toArray.size = 4 from rfl]; kernel_rfl)
    have hr : Tryz.f169.results = #[.cell 2 231] := rfl
    unfold results
    rw [hr]
    simp only [HW.out]
    simp [asAddr, hl, wordV]
  · exact ⟨rfl, (Mod.refl _ w).alloc _⟩

theorem u8_nat (n : Nat) : ((UInt8.ofNat n).toNat : Int) = IntKind.u8.wrap (n : Int) := by
  rw [IntKind.wrap_u8]
  simp
set_option maxRecDepth 100000 in
theorem number_any (w : World) (n : Nat) (hn : n ≤ 247) :
    Calls Tryz.prog 36 #[.slice none 0 0, .int .i64 n] w fun e w' => ∃ v' F, e = .returned v' ∧ Own 5 1 v' 1 (bytesV (numB n)) w' F ∧ Upd w w' [] F := by
  obtain ⟨i0, hi, hz0, hz1, hz2⟩ := info_parts Tryz.info5
  have HI := hid (And.intro hi (And.intro hz0 (And.intro hz1 hz2)))
  clear hi hz0 hz1 hz2
  have HR := hid (fun ty => run_append_nilsrc (P := Tryz.prog) w 0 87 ty 5 i0 1 Tryz.underlying87 HI.out.1 (.slice none 0 0) 0 [] (World.ownsRow_nil w 0 _ 1) none 0 rfl)
  have HO := hid (own_built 5 w [.int .u8 n] (by simp [maxLen]))
  go_enter Tryz.func36, Tryz.ntmps36
  go_wp2_with (at_builtin; first
    | (refine Lib.wpList_append_run _ rfl _ _ 87 87 rfl (.slice none 0 0) (.slice none 0 0) rfl rfl _ _ (HR.out _) ?_)
    | (refine wpList_append_rd _ rfl _ _ 87 rfl 5 i0 (.int .u8 0) 1 Tryz.underlying87 HI.out.1 HI.out.2.1 HI.out.2.2.1 HI.out.2.2.2 rfl (.slice none 0 0) 0 [] [] rfl (Own.nil _ _ _) _ (.slice (some ⟨w.heap.size, 0, none⟩) 1 1) [.int .u8 n] rfl HO.out.rd (by simp [Value.oneCell']) ?c1 ?c2 ?c3))
  case c1 => simp
  case c2 => simp [maxLen]
  case c3 =>
    intro v' w1 F' hown hu
    have HP := hid (And.intro hown hu)
    clear hown hu
    go_wp2
    go_ret
    obtain ⟨hown, hu⟩ := HP.out
    have e : bytesV (numB n) = [.int .u8 n] := by
      rw [Slog.numB_small hn]
      unfold bytesV
      simp
      omega
    rw [e]
    exact ⟨_, F', rfl, by simpa using hown, Upd.new ((Mod.refl _ w).alloc _) hu (by simp)⟩
end Go.Proofs.YtdbhccehbjhbpaaGreatDoor

/- wire: Frame; seglog: framed. -/
namespace Go.Proofs.YtdbhccehbjhbpaaGreatDoor
open Go.RowKit
open Slog (crc word4 head3 frame framed numB)

theorem shr_nat (n : Nat) (k : Nat) : ((n : Int) / (k : Int)) = ((n / k : Nat) : Int) := (Int.natCast_ediv n k).symm
theorem crc_lt (l : List UInt8) : crc l < 4294967296 := by unfold crc; omega
/-- the cells of an array variable, cut out whole. -/
theorem rd_array (w : World) (b : Nat) (t : TypeId) (l : List UInt8) (h : Blk w b t (bytesV l).toArray) (hl : l.length ≤ maxLen) : Rd (· = b) w (.slice (some ⟨b, 0, none⟩) l.length l.length) (bytesV l) :=
  ⟨_, l.length, by rw [bytesV_length], by rw [bytesV_length]; exact Nat.le_refl _, hl, fun _ => ⟨b, 0, rfl, rfl, fun k u hu => by
    rw [Nat.zero_add]
    exact h.cell (by simpa using hu)⟩⟩

theorem word_four (w : World) (n : Nat) (hn : n < 4294967296) {x0 x1 x2 x3 : UInt8} (hx : word4 n = [x0, x1, x2, x3]) :
    Calls Tryz.prog 169 #[.int .u32 n] w fun e w' => e = .returned (.agg #[.int .u8 x0.toNat, .int .u8 x1.toNat, .int .u8 x2.toNat, .int .u8 x3.toNat]) ∧ Mod (fun _ => False) w w' := by
  have h := word_any w n hn
  unfold wordV at h
  rw [hx] at h
  exact h

set_option maxRecDepth 100000 in
set_option maxHeartbeats 1000000 in
theorem frame_any (S : Nat → Prop) (w : World) (v : Value) (l : List UInt8) (hv : Rd S w v (bytesV l)) (hl : l.length ≤ 65536) :
    Calls Tryz.prog 121 #[v] w fun e w' => ∃ v' F, e = .returned (.tuple #[v', .int .i64 0]) ∧ Own 5 1 v' (frame l).length (bytesV (frame l)) w' F ∧ Upd w w' [] F := by
  obtain ⟨A, c, rfl, hc, hm, hA⟩ := id hv
  rw [bytesV_length] at hc ⊢
  unfold maxLen at hm
  obtain ⟨i0, hi, hz0, hz1, hz2⟩ := info_parts Tryz.info5
  have HI := hid (And.intro hi (And.intro hz0 (And.intro hz1 hz2)))
  rw [bytesV_length] at hv
  have HV := hid hv
  have HH := hid (show bytesV (head3 l.length) = [.int .u8 ((l.length : Int) / 65536), .int .u8 ((l.length : Int) / 256 % 256), .int .u8 ((l.length : Int) % 256)] by
    unfold bytesV head3
    simp
    omega)
  have HO := hid (own_built 5 w (bytesV (head3 l.length)) (by simp [bytesV, head3, maxLen]))
  clear hi hz0 hz1 hz2 hA hv
  go_enter Tryz.func121, Tryz.ntmps121
  go_wp2_with (at_builtin; first
    | (refine wpList_append_rd _ rfl _ _ 87 rfl 5 i0 (.int .u8 0) 1 Tryz.underlying87 HI.out.1 HI.out.2.1 HI.out.2.2.1 HI.out.2.2.2 rfl (.slice (some ⟨w.heap.size, 0, none⟩) 3 3) 3 (bytesV (head3 l.length)) [w.heap.size] rfl ?c0 S (.slice A l.length c) (bytesV l) rfl ?c4 (bytesV_one _) ?c1 ?c2 ?c3))
  case c0 => exact HH.out ▸ HO.out
  case c4 => exact HV.out.alloc _
  case c1 => rw [bytesV_length]; omega
  case c2 => rw [bytesV_length]; unfold maxLen; omega
  case c3 =>
    intro v' w1 F' hown hu
    rw [← bytesV_append, bytesV_length] at hown
    obtain ⟨A1, c1, rfl⟩ := hown.form
    have HS := hid (sum_any _ w1 _ _ hown.rd)
    have HP := hid (And.intro hown hu)
    clear hown hu
    obtain ⟨x0, x1, x2, x3, hx⟩ : ∃ x0 x1 x2 x3, word4 (crc (head3 l.length ++ l)) = [x0, x1, x2, x3] := ⟨_, _, _, _, rfl⟩
    have HW := hid (fun w => word_four w _ (crc_lt (head3 l.length ++ l)) hx)
    have HX := hid hx
    clear hx
    go_wp2_with (first
      | (go_at_call 170; refine HS.out.mono ?_; rintro e w2 ⟨rfl, rfl⟩)
      | (go_at_call 169; refine (HW.out _).mono ?_; rintro e w3 ⟨rfl, m3⟩; have M3 := hid m3; clear m3)
      | (at_builtin; refine wpList_append_rd _ rfl _ _ 87 rfl 5 i0 (.int .u8 0) 1 Tryz.underlying87 HI.out.1 HI.out.2.1 HI.out.2.2.1 HI.out.2.2.2 rfl (.slice A1 (3 + l.length) c1) (3 + l.length) (bytesV (head3 l.length ++ l)) F' rfl ?d0 (fun b : Nat => b = w3.heap.size) (.slice (some ⟨w3.heap.size, 0, none⟩) 4 4) (bytesV [x0, x1, x2, x3]) rfl ?d4 (bytesV_one _) ?d1 ?d2 ?d3))
    case d0 => exact (HP.out.1.mod M3.out (by simp)).keep fun b hb => Below.heap_alloc w3 _ b ((HP.out.1.mod M3.out (T := fun _ => False) (by simp)).lt b hb)
    case d4 => exact rd_array _ _ _ [x0, x1, x2, x3] (Blk.new w3 _ _) (by simp [maxLen])
    case d1 => simp [bytesV]; omega
    case d2 => simp [bytesV, maxLen]; omega
    case d3 =>
      intro v4 w4 F4 hown hu
      have HQ := hid (And.intro hown hu)
      clear hown hu
      go_wp2
      go_ret2
      have h1 : Upd w w2 [] F' := Upd.new ((Mod.refl _ w).alloc _) HP.out.2 (by simp)
      have h2 : Upd w2 (w3.alloc (.cells #[.int .u8 x0.toNat, .int .u8 x1.toNat, .int .u8 x2.toNat, .int .u8 x3.toNat] 231)) F' F' := ⟨((M3.out.mono (fun _ _ h => h.elim)).alloc _), HP.out.2.nodup, fun _ h => .inl h⟩
      refine ⟨v4, F4, rfl, ?_, (h1.trans h2).trans HQ.out.2⟩
      have h3 := HQ.out.1
      rw [← bytesV_append, ← HX.out] at h3
      have e : frame l = head3 l.length ++ l ++ word4 (crc (head3 l.length ++ l)) := rfl
      rw [e]
      have hn : (head3 l.length ++ l ++ word4 (crc (head3 l.length ++ l))).length = 3 + l.length + (bytesV [x0, x1, x2, x3]).length := by
        rw [List.length_append, HX.out, List.length_append]
        rfl
      rw [hn]
      exact h3

set_option maxRecDepth 100000 in
theorem frame_long (S : Nat → Prop) (w : World) (v : Value) (l : List UInt8) (hv : Rd S w v (bytesV l)) (hl : 65536 < l.length) :
    Calls Tryz.prog 121 #[v] w fun e w' => e = .returned (.tuple #[.slice none 0 0, .int .i64 4]) ∧ w' = w := by
  obtain ⟨A, c, rfl, hc, hm, hA⟩ := id hv
  rw [bytesV_length] at hc ⊢
  unfold maxLen at hm
  clear hA hv
  go_enter Tryz.func121, Tryz.ntmps121
  go_wp2
  go_ret2
  exact ⟨rfl, rfl⟩

set_option maxRecDepth 100000 in
set_option maxHeartbeats 1000000 in
theorem framed_any (S : Nat → Prop) (w : World) (n : Nat) (hn : n ≤ 247) (v : Value) (r : List UInt8) (hv : Rd S w v (bytesV r)) (hl : r.length ≤ 65535) :
    Calls Tryz.prog 70 #[.int .i64 n, v] w fun e w' => ∃ v' F, e = .returned (.tuple #[v', .int .i64 0]) ∧ Own 5 1 v' (framed n r).length (bytesV (framed n r)) w' F ∧ Upd w w' [] F := by
  obtain ⟨i0, hi, hz0, hz1, hz2⟩ := info_parts Tryz.info5
  have HI := hid (And.intro hi (And.intro hz0 (And.intro hz1 hz2)))
  have HV := hid hv
  have HN := hid (number_any w n hn)
  clear hi hz0 hz1 hz2 hv
  go_enter Tryz.func70, Tryz.ntmps70
  go_wp2_with (first
    | (go_at_call 36; refine HN.out.mono ?_; rintro e w1 ⟨v1, F1, rfl, hown, hu⟩; have HP := hid (And.intro hown hu); clear hown hu)
    | (at_builtin; refine wpList_append_rd _ rfl _ _ 87 rfl 5 i0 (.int .u8 0) 1 Tryz.underlying87 HI.out.1 HI.out.2.1 HI.out.2.2.1 HI.out.2.2.2 rfl v1 1 (bytesV (numB n)) F1 rfl HP.out.1 S v (bytesV r) rfl (HV.out.mod HP.out.2.mod (by simp)) (bytesV_one _) ?c1 ?c2 ?c3))
  case c1 => rw [bytesV_length]; omega
  case c2 => rw [bytesV_length]; unfold maxLen; omega
  case c3 =>
    intro v2 w2 F2 hown hu
    rw [← bytesV_append] at hown
    have hlen : (numB n ++ r).length ≤ 65536 := by rw [Slog.numB_small hn]; simp; omega
    have HF := hid (frame_any _ w2 v2 (numB n ++ r) hown.rd hlen)
    have HQ := hid ((HP.out.2.trans hu).mod)
    clear hown hu
    go_wp2_with (first
      | (go_at_call 121; refine HF.out.mono ?_; rintro e w3 ⟨v3, F3, rfl, hown, hu⟩; have HR := hid (And.intro hown hu); clear hown hu))
    go_ret2
    exact ⟨v3, F3, rfl, HR.out.1, Upd.new (HQ.out.mono (by simp)) ⟨HR.out.2.mod.mono (by simp), HR.out.2.nodup, HR.out.2.sub⟩ (by simp)⟩
set_option maxRecDepth 100000 in
set_option maxHeartbeats 1000000 in
theorem framed_long (S : Nat → Prop) (w : World) (n : Nat) (hn : n ≤ 247) (v : Value) (r : List UInt8) (hv : Rd S w v (bytesV r)) (hl : 65535 < r.length) (hb : r.length ≤ 70368744177664) :
    Calls Tryz.prog 70 #[.int .i64 n, v] w fun e w' => e = .returned (.tuple #[.slice none 0 0, .int .i64 4]) ∧ Mod (fun _ => False) w w' := by
  obtain ⟨i0, hi, hz0, hz1, hz2⟩ := info_parts Tryz.info5
  have HI := hid (And.intro hi (And.intro hz0 (And.intro hz1 hz2)))
  have HV := hid hv
  have HN := hid (number_any w n hn)
  clear hi hz0 hz1 hz2 hv
  go_enter Tryz.func70, Tryz.ntmps70
  go_wp2_with (first
    | (go_at_call 36; refine HN.out.mono ?_; rintro e w1 ⟨v1, F1, rfl, hown, hu⟩; have HP := hid (And.intro hown hu); clear hown hu)
    | (at_builtin; refine wpList_append_rd _ rfl _ _ 87 rfl 5 i0 (.int .u8 0) 1 Tryz.underlying87 HI.out.1 HI.out.2.1 HI.out.2.2.1 HI.out.2.2.2 rfl v1 1 (bytesV (numB n)) F1 rfl HP.out.1 S v (bytesV r) rfl (HV.out.mod HP.out.2.mod (by simp)) (bytesV_one _) ?c1 ?c2 ?c3))
  case c1 => rw [bytesV_length]; omega
  case c2 => rw [bytesV_length]; unfold maxLen; omega
  case c3 =>
    intro v2 w2 F2 hown hu
    rw [← bytesV_append] at hown
    have hlen : 65536 < (numB n ++ r).length := by rw [Slog.numB_small hn]; simp; omega
    have HF := hid (frame_long _ w2 v2 (numB n ++ r) hown.rd hlen)
    have HQ := hid ((HP.out.2.trans hu).mod)
    clear hown hu
    go_wp2_with (first
      | (go_at_call 121; refine HF.out.mono ?_; rintro e w3 ⟨rfl, rfl⟩))
    go_ret2
    exact ⟨rfl, HQ.out.mono (by simp)⟩
end Go.Proofs.YtdbhccehbjhbpaaGreatDoor
