/- wire: Frame; seglog: framed. -/
import Derived.Test.YtdbhccehbjhbpaaGreatDoorT4
namespace Go.Proofs.YtdbhccehbjhbpaaGreatDoor
open Go.RowKit
open Slog (crc word4 head3 frame framed numB)

theorem shr_nat (n : Nat) (k : Nat) : ((n : Int) / (k : Int)) = ((n / k : Nat) : Int) := (Int.natCast_ediv n k).symm
theorem crc_lt (l : List UInt8) : crc l < 4294967296 := by unfold crc; omega
/-- the cells of an array variable, cut out whole. -/
theorem rd_array (w : World) (b : Nat) (t : TypeId) (l : List UInt8) (h : Blk w b t (bytesV l).toArray) (hl : l.length ≤ maxLen) : Rd (· = b) w (.slice (some ⟨b, 0, none⟩) l.length l.length) (bytesV l) :=
  ⟨_, l.length, by rw [bytesV_length], by rw [bytesV_length]; exact Nat.le_refl _, hl, fun _ => ⟨b, 0, rfl, rfl, fun k u hu => by
    rw [Nat.zero_add]
    exact h.cell (by simpa using hu)⟩⟩

theorem word_four (w : World) (n : Nat) (hn : n < 4294967296) {x0 x1 x2 x3 : UInt8} (hx : word4 n = [x0, x1, x2, x3]) :
    Calls Tryz.prog 169 #[.int .u32 n] w fun e w' => e = .returned (.agg #[.int .u8 x0.toNat, .int .u8 x1.toNat, .int .u8 x2.toNat, .int .u8 x3.toNat]) ∧ Mod (fun _ => False) w w' := by
  have h := word_any w n hn
  unfold wordV at h
  rw [hx] at h
  exact h

set_option maxRecDepth 100000 in
set_option maxHeartbeats 1000000 in
theorem frame_any (S : Nat → Prop) (w : World) (v : Value) (l : List UInt8) (hv : Rd S w v (bytesV l)) (hl : l.length ≤ 65536) :
    Calls Tryz.prog 121 #[v] w fun e w' => ∃ v' F, e = .returned (.tuple #[v', .int .i64 0]) ∧ Own 5 1 v' (frame l).length (bytesV (frame l)) w' F ∧ Upd w w' [] F := by
  obtain ⟨A, c, rfl, hc, hm, hA⟩ := id hv
  rw [bytesV_length] at hc ⊢
  unfold maxLen at hm
  obtain ⟨i0, hi, hz0, hz1, hz2⟩ := info_parts Tryz.info5
  have HI := hid (And.intro hi (And.intro hz0 (And.intro hz1 hz2)))
  rw [bytesV_length] at hv
  have HV := hid hv
  have HH := hid (show bytesV (head3 l.length) = [.int .u8 ((l.length : Int) / 65536), .int .u8 ((l.length : Int) / 256 % 256), .int .u8 ((l.length : Int) % 256)] by
    unfold bytesV head3
    simp
    omega)
  have HO := hid (own_built 5 w (bytesV (head3 l.length)) (by simp [bytesV, head3, maxLen]))
  clear hi hz0 hz1 hz2 hA hv
  go_enter Tryz.func121, Tryz.ntmps121
  go_wp2_with (at_builtin; first
    | (refine wpList_append_rd _ rfl _ _ 87 rfl 5 i0 (.int .u8 0) 1 Tryz.underlying87 HI.out.1 HI.out.2.1 HI.out.2.2.1 HI.out.2.2.2 rfl (.slice (some ⟨w.heap.size, 0, none⟩) 3 3) 3 (bytesV (head3 l.length)) [w.heap.size] rfl ?c0 S (.slice A l.length c) (bytesV l) rfl ?c4 (bytesV_one _) ?c1 ?c2 ?c3))
  case c0 => exact HH.out ▸ HO.out
  case c4 => exact HV.out.alloc _
  case c1 => rw [bytesV_length]; omega
  case c2 => rw [bytesV_length]; unfold maxLen; omega
  case c3 =>
    intro v' w1 F' hown hu
    rw [← bytesV_append, bytesV_length] at hown
    obtain ⟨A1, c1, rfl⟩ := hown.form
    have HS := hid (sum_any _ w1 _ _ hown.rd)
    have HP := hid (And.intro hown hu)
    clear hown hu
    obtain ⟨x0, x1, x2, x3, hx⟩ : ∃ x0 x1 x2 x3, word4 (crc (head3 l.length ++ l)) = [x0, x1, x2, x3] := ⟨_, _, _, _, rfl⟩
    have HW := hid (fun w => word_four w _ (crc_lt (head3 l.length ++ l)) hx)
    have HX := hid hx
    clear hx
    go_wp2_with (first
      | (go_at_call 170; refine HS.out.mono ?_; rintro e w2 ⟨rfl, rfl⟩)
      | (go_at_call 169; refine (HW.out _).mono ?_; rintro e w3 ⟨rfl, m3⟩; have M3 := hid m3; clear m3)
      | (at_builtin; refine wpList_append_rd _ rfl _ _ 87 rfl 5 i0 (.int .u8 0) 1 Tryz.underlying87 HI.out.1 HI.out.2.1 HI.out.2.2.1 HI.out.2.2.2 rfl (.slice A1 (3 + l.length) c1) (3 + l.length) (bytesV (head3 l.length ++ l)) F' rfl ?d0 (fun b : Nat => b = w3.heap.size) (.slice (some ⟨w3.heap.size, 0, none⟩) 4 4) (bytesV [x0, x1, x2, x3]) rfl ?d4 (bytesV_one _) ?d1 ?d2 ?d3))
    case d0 => exact (HP.out.1.mod M3.out (by simp)).keep fun b hb => Below.heap_alloc w3 _ b ((HP.out.1.mod M3.out (T := fun _ => False) (by simp)).lt b hb)
    case d4 => exact rd_array _ _ _ [x0, x1, x2, x3] (Blk.new w3 _ _) (by simp [maxLen])
    case d1 => simp [bytesV]; omega
    case d2 => simp [bytesV, maxLen]; omega
    case d3 =>
      intro v4 w4 F4 hown hu
      have HQ := hid (And.intro hown hu)
      clear hown hu
      go_wp2
      go_ret2
      have h1 : Upd w w2 [] F' := Upd.new ((Mod.refl _ w).alloc _) HP.out.2 (by simp)
      have h2 : Upd w2 (w3.alloc (.cells #[.int .u8 x0.toNat, .int .u8 x1.toNat, .int .u8 x2.toNat, .int .u8 x3.toNat] 231)) F' F' := ⟨((M3.out.mono (fun _ _ h => h.elim)).alloc _), HP.out.2.nodup, fun _ h => .inl h⟩
      refine ⟨v4, F4, rfl, ?_, (h1.trans h2).trans HQ.out.2⟩
      have h3 := HQ.out.1
      rw [← bytesV_append, ← HX.out] at h3
      have e : frame l = head3 l.length ++ l ++ word4 (crc (head3 l.length ++ l)) := rfl
      rw [e]
      have hn : (head3 l.length ++ l ++ word4 (crc (head3 l.length ++ l))).length = 3 + l.length + (bytesV [x0, x1, x2, x3]).length := by
        rw [List.length_append, HX.out, List.length_append]
        rfl
      rw [hn]
      exact h3

set_option maxRecDepth 100000 in
theorem frame_long (S : Nat → Prop) (w : World) (v : Value) (l : List UInt8) (hv : Rd S w v (bytesV l)) (hl : 65536 < l.length) :
    Calls Tryz.prog 121 #[v] w fun e w' => e = .returned (.tuple #[.slice none 0 0, .int .i64 4]) ∧ w' = w := by
  obtain ⟨A, c, rfl, hc, hm, hA⟩ := id hv
  rw [bytesV_length] at hc ⊢
  unfold maxLen at hm
  clear hA hv
  go_enter Tryz.func121, Tryz.ntmps121
  go_wp2
  go_ret2
  exact ⟨rfl, rfl⟩

set_option maxRecDepth 100000 in
set_option maxHeartbeats 1000000 in
theorem framed_any (S : Nat → Prop) (w : World) (n : Nat) (hn : n ≤ 247) (v : Value) (r : List UInt8) (hv : Rd S w v (bytesV r)) (hl : r.length ≤ 65535) :
    Calls Tryz.prog 70 #[.int .i64 n, v] w fun e w' => ∃ v' F, e = .returned (.tuple #[v', .int .i64 0]) ∧ Own 5 1 v' (framed n r).length (bytesV (framed n r)) w' F ∧ Upd w w' [] F := by
  obtain ⟨i0, hi, hz0, hz1, hz2⟩ := info_parts Tryz.info5
  have HI := hid (And.intro hi (And.intro hz0 (And.intro hz1 hz2)))
  have HV := hid hv
  have HN := hid (number_any w n hn)
  clear hi hz0 hz1 hz2 hv
  go_enter Tryz.func70, Tryz.ntmps70
  go_wp2_with (first
    | (go_at_call 36; refine HN.out.mono ?_; rintro e w1 ⟨v1, F1, rfl, hown, hu⟩; have HP := hid (And.intro hown hu); clear hown hu)
    | (at_builtin; refine wpList_append_rd _ rfl _ _ 87 rfl 5 i0 (.int .u8 0) 1 Tryz.underlying87 HI.out.1 HI.out.2.1 HI.out.2.2.1 HI.out.2.2.2 rfl v1 1 (bytesV (numB n)) F1 rfl HP.out.1 S v (bytesV r) rfl (HV.out.mod HP.out.2.mod (by simp)) (bytesV_one _) ?c1 ?c2 ?c3))
  case c1 => rw [bytesV_length]; omega
  case c2 => rw [bytesV_length]; unfold maxLen; omega
  case c3 =>
    intro v2 w2 F2 hown hu
    rw [← bytesV_append] at hown
    have hlen : (numB n ++ r).length ≤ 65536 := by rw [Slog.numB_small hn]; simp; omega
    have HF := hid (frame_any _ w2 v2 (numB n ++ r) hown.rd hlen)
    have HQ := hid ((HP.out.2.trans hu).mod)
    clear hown hu
    go_wp2_with (first
      | (go_at_call 121; refine HF.out.mono ?_; rintro e w3 ⟨v3, F3, rfl, hown, hu⟩; have HR := hid (And.intro hown hu); clear hown hu))
    go_ret2
    exact ⟨v3, F3, rfl, HR.out.1, Upd.new (HQ.out.mono (by simp)) ⟨HR.out.2.mod.mono (by simp), HR.out.2.nodup, HR.out.2.sub⟩ (by simp)⟩
set_option maxRecDepth 100000 in
set_option maxHeartbeats 1000000 in
theorem framed_long (S : Nat → Prop) (w : World) (n : Nat) (hn : n ≤ 247) (v : Value) (r : List UInt8) (hv : Rd S w v (bytesV r)) (hl : 65535 < r.length) (hb : r.length ≤ 70368744177664) :
    Calls Tryz.prog 70 #[.int .i64 n, v] w fun e w' => e = .returned (.tuple #[.slice none 0 0, .int .i64 4]) ∧ Mod (fun _ => False) w w' := by
  obtain ⟨i0, hi, hz0, hz1, hz2⟩ := info_parts Tryz.info5
  have HI := hid (And.intro hi (And.intro hz0 (And.intro hz1 hz2)))
  have HV := hid hv
  have HN := hid (number_any w n hn)
  clear hi hz0 hz1 hz2 hv
  go_enter Tryz.func70, Tryz.ntmps70
  go_wp2_with (first
    | (go_at_call 36; refine HN.out.mono ?_; rintro e w1 ⟨v1, F1, rfl, hown, hu⟩; have HP := hid (And.intro hown hu); clear hown hu)
    | (at_builtin; refine wpList_append_rd _ rfl _ _ 87 rfl 5 i0 (.int .u8 0) 1 Tryz.underlying87 HI.out.1 HI.out.2.1 HI.out.2.2.1 HI.out.2.2.2 rfl v1 1 (bytesV (numB n)) F1 rfl HP.out.1 S v (bytesV r) rfl (HV.out.mod HP.out.2.mod (by simp)) (bytesV_one _) ?c1 ?c2 ?c3))
  case c1 => rw [bytesV_length]; omega
  case c2 => rw [bytesV_length]; unfold maxLen; omega
  case c3 =>
    intro v2 w2 F2 hown hu
    rw [← bytesV_append] at hown
    have hlen : 65536 < (numB n ++ r).length := by rw [Slog.numB_small hn]; simp; omega
    have HF := hid (frame_long _ w2 v2 (numB n ++ r) hown.rd hlen)
    have HQ := hid ((HP.out.2.trans hu).mod)
    clear hown hu
    go_wp2_with (first
      | (go_at_call 121; refine HF.out.mono ?_; rintro e w3 ⟨rfl, rfl⟩))
    go_ret2
    exact ⟨rfl, HQ.out.mono (by simp)⟩
end Go.Proofs.YtdbhccehbjhbpaaGreatDoor
