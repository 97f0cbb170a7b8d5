/- wire: a cursor at any place: Byte, peek, Number, Text, End. -/
import Derived.Test.YtdbhccehbjhbpaaGreatDoorTB
import Derived.Test.YtdbhccehbjhbpaaGreatDoorKP
import Derived.BigQuiet
import Derived.Laws.Bits64b
import Derived.Deep.QuietTactic

namespace Go.Proofs.YtdbhccehbjhbpaaGreatDoor
open Go.RowKit
open Slog (numB)

theorem or_byte (a d : Nat) (ha : a < 65536) (hd : d < 256) : bits .or .u64 ((a : Int) * 256) (d : Int) = (a : Int) * 256 + (d : Int) := by
  have h := bits_or_u64_nat (a * 256) d (by omega) (by omega)
  have h2 := Nat.two_pow_add_eq_or_of_lt (b := d) (i := 8) (by omega) a
  rw [show (2 : Nat) ^ 8 * a = a * 256 by omega] at h2
  rw [← h2] at h
  rw [show ((a : Int) * 256) = ((a * 256 : Nat) : Int) by omega, h]
  omega

set_option maxRecDepth 100000 in
theorem cpeek1_any (w : World) (q p n c at_ bb off : Nat) (x : UInt8) (hx : x.toNat ≤ 247) (hq : w.cell? ⟨q, 0, none⟩ = some (.pointer (some ⟨p, 0, none⟩))) (h0 : w.cell? ⟨p, 0, none⟩ = some (.slice (some ⟨bb, off, none⟩) n c)) (h1 : w.cell? ⟨p, 1, none⟩ = some (.int .i64 at_))
    (hn : at_ < n) (hm : n ≤ 9223372036854775807) (hc : w.cell? ⟨bb, off + at_, none⟩ = some (.int .u8 x.toNat)) :
    Calls Tryz.prog 195 #[.pointer (some ⟨q, 0, none⟩)] w fun e w' => e = .returned (.tuple #[.int .i64 x.toNat, .int .i64 1, .int .i64 0]) ∧ ∃ k, w' = w.drewN k := by
  have HM := hid (cmade_any w q p hq)
  have HL := hid (cleft_any w p _ n c at_ h0 h1 (by omega) hm)
  have hn0 : (at_ : Int) < (n : Int) := by omega
  have hnn : (0 : Int) ≤ (at_ : Int) := by omega
  have hn1 : ¬ (((n - at_ : Nat) : Int) = 0) := by omega
  go_enter Tryz.func195, Tryz.ntmps195
  go_wp2_with (first
    | (go_at_call 158; refine HM.out.mono ?_; rintro e w' ⟨rfl, rfl⟩)
    | (go_at_call 159; refine HL.out.mono ?_; rintro e w' ⟨rfl, k1, rfl⟩))
  go_quiet (fail)
  go_wp2_with fail
  go_ret3
  exact ⟨rfl, _, rfl⟩

set_option maxRecDepth 100000 in
theorem cpeek2_any (w : World) (q p n c at_ bb off : Nat) (d0 : Nat) (hd0 : d0 < 256) (hbig : 247 < d0)
    (hq : w.cell? ⟨q, 0, none⟩ = some (.pointer (some ⟨p, 0, none⟩))) (h0 : w.cell? ⟨p, 0, none⟩ = some (.slice (some ⟨bb, off, none⟩) n c)) (h1 : w.cell? ⟨p, 1, none⟩ = some (.int .i64 at_))
    (hn : at_ + 1 < n) (hnc : n ≤ c) (hcm : c ≤ 9223372036854775807) (hc : w.cell? ⟨bb, off + at_, none⟩ = some (.int .u8 248)) (hc0 : w.cell? ⟨bb, off + (at_ + 1), none⟩ = some (.int .u8 (d0 : Nat))) :
    Calls Tryz.prog 195 #[.pointer (some ⟨q, 0, none⟩)] w fun e w' => e = .returned (.tuple #[.int .i64 (d0 : Nat), .int .i64 2, .int .i64 0]) ∧ ∃ k, w' = w.drewN k := by
  have HM := hid (cmade_any w q p hq)
  have HL := hid (fun k => cleft_any (w.drewN k) p _ n c at_ (by simpa using h0) (by simpa using h1) (by omega) (by omega))
  have hn0 : (at_ : Int) < (n : Int) := by omega
  have hnn : (0 : Int) ≤ (at_ : Int) := by omega
  have hn1 : ¬ (((n - at_ : Nat) : Int) = 0) := by omega
  have hn2 : ¬ (((n - at_ : Nat) : Int) ≤ 1) := by omega
  have hw1 : IntKind.i64.wrap ((at_ : Int) + 1) = (at_ : Int) + 1 := by rw [IntKind.wrap_i64]; omega
  have hw2 : IntKind.i64.wrap ((at_ : Int) + 1 + 1) = (at_ : Int) + 1 + 1 := by rw [IntKind.wrap_i64]; omega
  have hle1 : (0 : Int) ≤ (at_ : Int) + 1 := by omega
  have hle2 : (at_ : Int) + 1 ≤ (at_ : Int) + 1 + 1 := by omega
  have hle3 : (at_ : Int) + 1 + 1 ≤ (c : Int) := by omega
  go_enter Tryz.func195, Tryz.ntmps195
  go_wp2_with (first
    | (go_at_call 158; refine HM.out.mono ?_; rintro e w' ⟨rfl, rfl⟩)
    | (go_at_call 159; refine (HL.out 0).mono ?_; rintro e w' ⟨rfl, k1, rfl⟩))
  go_quiet (fail)
  go_wp2_with (first
    | (go_at_call 159; refine (HL.out _).mono ?_; rintro e w' ⟨rfl, k2, rfl⟩))
  go_quiet (fail)
  go_wp2_with fail
  have or0 : bits .or .u64 0 (d0 : Int) = (d0 : Int) := by have := or_byte 0 d0 (by decide) hd0; simpa using this
  have hb1 : ¬ ((d0 : Int) ≤ 247) := by omega
  have hz : ((d0 : Int) == 0) = false := by rw [beq_eq_false_iff_ne]; omega

  refine wp_loop_rounds 2 ?_
  rw [rounds_succ]
  go_wp2_with fail
  rw [rounds_succ]
  go_wp2_with fail


  go_ret3
  exact ⟨rfl, _, rfl⟩
set_option maxRecDepth 100000 in
theorem cpeek3_any (w : World) (q p n c at_ bb off : Nat) (d0 d1 : Nat) (hd0 : d0 < 256) (hd1 : d1 < 256) (hbig : 0 < d0)
    (hq : w.cell? ⟨q, 0, none⟩ = some (.pointer (some ⟨p, 0, none⟩))) (h0 : w.cell? ⟨p, 0, none⟩ = some (.slice (some ⟨bb, off, none⟩) n c)) (h1 : w.cell? ⟨p, 1, none⟩ = some (.int .i64 at_))
    (hn : at_ + 2 < n) (hnc : n ≤ c) (hcm : c ≤ 9223372036854775807) (hc : w.cell? ⟨bb, off + at_, none⟩ = some (.int .u8 249)) (hc0 : w.cell? ⟨bb, off + (at_ + 1), none⟩ = some (.int .u8 (d0 : Nat))) (hc1 : w.cell? ⟨bb, off + (at_ + 1) + 1, none⟩ = some (.int .u8 (d1 : Nat))) :
    Calls Tryz.prog 195 #[.pointer (some ⟨q, 0, none⟩)] w fun e w' => e = .returned (.tuple #[.int .i64 (d0 * 256 + d1 : Nat), .int .i64 3, .int .i64 0]) ∧ ∃ k, w' = w.drewN k := by
  have HM := hid (cmade_any w q p hq)
  have HL := hid (fun k => cleft_any (w.drewN k) p _ n c at_ (by simpa using h0) (by simpa using h1) (by omega) (by omega))
  have hn0 : (at_ : Int) < (n : Int) := by omega
  have hnn : (0 : Int) ≤ (at_ : Int) := by omega
  have hn1 : ¬ (((n - at_ : Nat) : Int) = 0) := by omega
  have hn2 : ¬ (((n - at_ : Nat) : Int) ≤ 2) := by omega
  have hw1 : IntKind.i64.wrap ((at_ : Int) + 1) = (at_ : Int) + 1 := by rw [IntKind.wrap_i64]; omega
  have hw2 : IntKind.i64.wrap ((at_ : Int) + 1 + 2) = (at_ : Int) + 1 + 2 := by rw [IntKind.wrap_i64]; omega
  have hle1 : (0 : Int) ≤ (at_ : Int) + 1 := by omega
  have hle2 : (at_ : Int) + 1 ≤ (at_ : Int) + 1 + 2 := by omega
  have hle3 : (at_ : Int) + 1 + 2 ≤ (c : Int) := by omega
  go_enter Tryz.func195, Tryz.ntmps195
  go_wp2_with (first
    | (go_at_call 158; refine HM.out.mono ?_; rintro e w' ⟨rfl, rfl⟩)
    | (go_at_call 159; refine (HL.out 0).mono ?_; rintro e w' ⟨rfl, k1, rfl⟩))
  go_quiet (fail)
  go_wp2_with (first
    | (go_at_call 159; refine (HL.out _).mono ?_; rintro e w' ⟨rfl, k2, rfl⟩))
  go_quiet (fail)
  go_wp2_with fail
  have or0 : bits .or .u64 0 (d0 : Int) = (d0 : Int) := by have := or_byte 0 d0 (by decide) hd0; simpa using this
  have hb1 : ¬ ((d0 : Int) * 256 + (d1 : Int) ≤ 247) := by omega
  have or1 := or_byte d0 d1 (by omega) hd1
  have hz : (((d0 : Int) * 256 + (d1 : Int)) / 256 == 0) = false := by rw [beq_eq_false_iff_ne]; omega
  refine wp_loop_rounds 3 ?_
  rw [rounds_succ]
  go_wp2_with fail
  rw [rounds_succ]
  go_wp2_with fail
  rw [rounds_succ]
  go_wp2_with fail
  go_ret3
  exact ⟨by simp, _, rfl⟩

theorem numB_forms (v : Nat) (hv : v < 65536) : (v ≤ 247 ∧ numB v = [UInt8.ofNat v]) ∨ (247 < v ∧ v < 256 ∧ numB v = [248, UInt8.ofNat v]) ∨ (256 ≤ v ∧ numB v = [249, UInt8.ofNat (v / 256), UInt8.ofNat v]) := by
  unfold numB
  by_cases h1 : v ≤ 247
  · exact .inl ⟨h1, if_pos h1⟩
  · rw [if_neg h1]
    by_cases h2 : v < 256
    · refine .inr (.inl ⟨by omega, h2, ?_⟩)
      have hw : Slog.width v = 1 := by unfold Slog.width; rw [if_pos h2]
      rw [hw]
      simp [Slog.bytesOf]
    · refine .inr (.inr ⟨by omega, ?_⟩)
      have hw : Slog.width v = 2 := by unfold Slog.width; rw [if_neg h2, if_pos hv]
      rw [hw]
      simp [Slog.bytesOf]
theorem ofNat_toNat {v : Nat} (h : v < 256) : (UInt8.ofNat v).toNat = v := by simp; omega
theorem drop_at {b l r : List UInt8} {k : Nat} (h : b.drop k = l ++ r) {i : Nat} (hi : i < l.length) : ∃ hk : k + i < b.length, b[k + i] = l[i] := by
  have hlen : (b.drop k).length = l.length + r.length := by rw [h, List.length_append]
  rw [List.length_drop] at hlen
  refine ⟨by omega, ?_⟩
  have h1 : (b.drop k)[i]'(by rw [h, List.length_append]; omega) = l[i] := by
    have : (l ++ r)[i]'(by rw [List.length_append]; omega) = l[i] := List.getElem_append_left hi
    rw [← this]
    congr 1
  rw [List.getElem_drop] at h1
  exact h1

/-- what is seen of a cursor. -/
structure CurSeen (w : World) (q p bb off c : Nat) (b : List UInt8) (k : Nat) : Prop where
  hq : w.cell? ⟨q, 0, none⟩ = some (.pointer (some ⟨p, 0, none⟩))
  h0 : w.cell? ⟨p, 0, none⟩ = some (.slice (some ⟨bb, off, none⟩) b.length c)
  h1 : w.cell? ⟨p, 1, none⟩ = some (.int .i64 k)
  hc : b.length ≤ c
  hm : c ≤ 9223372036854775807
  cell : ∀ i (h : i < b.length), w.cell? ⟨bb, off + i, none⟩ = some (.int .u8 b[i].toNat)
  fr : w.frozen? ⟨p, 1, none⟩ = false
theorem CurSeen.drewN {w : World} {q p bb off c : Nat} {b : List UInt8} {k : Nat} (h : CurSeen w q p bb off c b k) (n : Nat) : CurSeen (w.drewN n) q p bb off c b k :=
  ⟨by simpa using h.hq, by simpa using h.h0, by simpa using h.h1, h.hc, h.hm, fun i hi => by simpa using h.cell i hi, by simpa using h.fr⟩
theorem Held.cur_seen {w0 w : World} {B : List Res} {q k : Nat} {b : List UInt8} (h : Held w0 w (rCur q b k :: B)) (hb : b ≠ []) :
    ∃ p bb off c, CurSeen w q p bb off c b k ∧ ∀ (n k' : Nat), Held w0 ((w.drewN n).setCell ⟨p, 1, none⟩ (.int .i64 k')) (rCur q b k' :: B) := by
  obtain ⟨p, v, h1⟩ := h.cur_open
  have c1 : w.cell? ⟨q, 0, none⟩ = some (.pointer (some ⟨p, 0, none⟩)) := h1.blk0.cell rfl
  have b2 := h1.pull1.blk0
  have c3 : w.cell? ⟨p, 1, none⟩ = some (.int .i64 k) := b2.cell rfl
  have c2 : w.cell? ⟨p, 0, none⟩ = some v := b2.cell rfl
  have hr := Held.bytes (l1 := [_, _]) h1
  obtain ⟨A, c, rfl, hc, hm⟩ := Held.form (l1 := [_, _]) h1
  obtain ⟨bb, off, rfl, -, hcell⟩ := rd_at hr (k := 0) (by cases b with | nil => exact absurd rfl hb | cons x l => simp)
  refine ⟨p, bb, off, c, ⟨c1, c2, c3, hc, hm, fun i hi => ?_, b2.frozen 1⟩, fun n k' => ((h1.drewN n).pull1.store (l1 := []) 1 (.int .i64 k')).push1.cur_shut⟩
  exact hcell i hi

set_option maxRecDepth 100000 in
theorem cpeek_all (w : World) {q p bb off c k : Nat} {b r : List UInt8} (h : CurSeen w q p bb off c b k) (v : Nat) (hv : v < 65536) (hb : b.drop k = numB v ++ r) :
    Calls Tryz.prog 195 #[.pointer (some ⟨q, 0, none⟩)] w fun e w' => e = .returned (.tuple #[.int .i64 v, .int .i64 (numB v).length, .int .i64 0]) ∧ ∃ n, w' = w.drewN n := by
  have hcc := h.hc
  have hmm := h.hm
  rcases numB_forms v hv with ⟨h1, h2⟩ | ⟨h1, h3, h2⟩ | ⟨h1, h2⟩
  · rw [h2] at hb ⊢
    obtain ⟨hk, e0⟩ := drop_at hb (i := 0) (by simp)
    have c0 := h.cell (k + 0) hk
    rw [e0] at c0
    have := cpeek1_any w q p b.length c k bb off (UInt8.ofNat v) (by rw [ofNat_toNat (by omega)]; exact h1) h.hq h.h0 h.h1 hk (by omega) c0
    rw [ofNat_toNat (by omega)] at this
    exact this
  · rw [h2] at hb ⊢
    obtain ⟨hk0, e0⟩ := drop_at hb (i := 0) (by simp)
    obtain ⟨hk1, e1⟩ := drop_at hb (i := 1) (by simp)
    have c0 := h.cell (k + 0) hk0
    have c1 := h.cell (k + 1) hk1
    rw [e0] at c0
    rw [e1] at c1
    have c1' : w.cell? ⟨bb, off + (k + 1), none⟩ = some (.int .u8 v) := by
      rw [c1]
      show some (Value.int .u8 ((UInt8.ofNat v).toNat : Int)) = _
      rw [ofNat_toNat h3]
    exact cpeek2_any w q p b.length c k bb off v h3 h1 h.hq h.h0 h.h1 (by omega) hcc hmm c0 c1'
  · rw [h2] at hb ⊢
    obtain ⟨hk0, e0⟩ := drop_at hb (i := 0) (by simp)
    obtain ⟨hk1, e1⟩ := drop_at hb (i := 1) (by simp)
    obtain ⟨hk2, e2⟩ := drop_at hb (i := 2) (by simp)
    have c0 := h.cell (k + 0) hk0
    have c1 := h.cell (k + 1) hk1
    have c2 := h.cell (k + 2) hk2
    rw [e0] at c0
    rw [e1] at c1
    rw [e2] at c2
    have c1' : w.cell? ⟨bb, off + (k + 1), none⟩ = some (.int .u8 ((v / 256 : Nat) : Int)) := by
      rw [c1]
      show some (Value.int .u8 ((UInt8.ofNat (v / 256)).toNat : Int)) = _
      rw [ofNat_toNat (by omega)]
    have c2' : w.cell? ⟨bb, off + (k + 1) + 1, none⟩ = some (.int .u8 ((v % 256 : Nat) : Int)) := by
      rw [show off + (k + 1) + 1 = off + (k + 2) by omega, c2]
      show some (Value.int .u8 ((UInt8.ofNat v).toNat : Int)) = _
      simp
    have := cpeek3_any w q p b.length c k bb off (v / 256) (v % 256) (by omega) (by omega) (by omega) h.hq h.h0 h.h1 (by omega) hcc hmm c0 c1' c2'
    rw [show v / 256 * 256 + v % 256 = v by omega] at this
    exact this

set_option maxRecDepth 100000 in
theorem cnum_held {w0 w : World} {B : List Res} {q k : Nat} {b r : List UInt8} (h : Held w0 w (rCur q b k :: B)) (v : Nat) (hv : v < 65536) (hb : b.drop k = numB v ++ r) (hne : b ≠ []) :
    Calls Tryz.prog 154 #[.pointer (some ⟨q, 0, none⟩)] w fun e w' => e = .returned (.tuple #[.int .i64 v, .int .i64 0]) ∧ Held w0 w' (rCur q b (k + (numB v).length) :: B) := by
  obtain ⟨p, bb, off, c, hs, hback⟩ := h.cur_seen hne
  obtain ⟨hq, h0, h1, hc, hm, hcell, hfr⟩ := id hs
  have HP := hid (cpeek_all w hs v hv hb)
  have HH := hid hback
  have hlen : (b.drop k).length = (numB v).length + r.length := by rw [hb, List.length_append]
  rw [List.length_drop] at hlen
  have hpos : 0 < (numB v).length := by rcases numB_forms v hv with ⟨-, h2⟩ | ⟨-, -, h2⟩ | ⟨-, h2⟩ <;> rw [h2] <;> simp
  generalize (numB v).length = nb at *
  have hw1 : IntKind.i64.wrap ((k : Int) + (nb : Int)) = (k : Int) + (nb : Int) := by rw [IntKind.wrap_i64]; omega
  clear h hs hback hb hcell hlen
  go_enter Tryz.func154, Tryz.ntmps154
  go_wp2_with (first
    | (go_at_call 195; refine HP.out.mono ?_; rintro e w' ⟨rfl, k1, rfl⟩))
  go_ret2
  exact ⟨rfl, by have := HH.out k1 (k + nb); simpa using this⟩
end Go.Proofs.YtdbhccehbjhbpaaGreatDoor
