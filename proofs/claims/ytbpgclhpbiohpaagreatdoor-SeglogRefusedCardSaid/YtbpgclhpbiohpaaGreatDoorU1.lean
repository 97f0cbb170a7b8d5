/- seglog's laws: bytes.Equal, slices.EqualFunc, begun, awake. -/
import Derived.Test.YtbpgclhpbiohpaaGreatDoorT20
import Derived.Test.YtbpgclhpbiohpaaGreatDoorQ9
import Derived.Lib.SlBytesConst
import Derived.OwnWalk
namespace Go.Proofs.YtbpgclhpbiohpaaGreatDoor
open Go.RowKit
open Slog (Seg recsOf nameB Lg)
open Disk (Dk)

theorem bequal_any (S T : Nat → Prop) (w : World) (v u : Value) (l m : List UInt8) (hv : Rd S w v (bytesV l)) (hu : Rd T w u (bytesV m)) :
    Calls Tryz.prog 26 #[v, u] w fun e w' => e = .returned (.bool (l == m)) ∧ w = w' := by
  have h1 := run_bytes_string (P := Tryz.prog) (dst := 9) Tryz.underlying22 Tryz.underlying5 Tryz.underlying9 hv
  have h2 := run_bytes_string (P := Tryz.prog) (dst := 9) Tryz.underlying22 Tryz.underlying5 Tryz.underlying9 hu
  clear hv hu
  go_enter Tryz.func26, Tryz.ntmps26
  go_wp2
  go_ret
  exact ⟨rfl, rfl⟩

/-- rows of records, read. -/
def RdR (w : World) (v : Value) (rs : List (List UInt8)) : Prop :=
  ∃ A c, v = .slice A rs.length c ∧ rs.length ≤ c ∧ c ≤ 9223372036854775807 ∧ (rs ≠ [] → ∃ b off, A = some ⟨b, off, none⟩ ∧ ∀ k (hk : k < rs.length), ∃ u, w.cell? ⟨b, off + k, none⟩ = some u ∧ Rd (fun _ => True) w u (bytesV rs[k]))
theorem Held.rdr {w0 w : World} {B : List Res} {v : Value} {rs : List (List UInt8)} (h : Held w0 w (rRecs v rs :: B)) : RdR w v rs := by
  obtain ⟨A, c, hv, h1, h2⟩ := h.recs_form
  refine ⟨A, c, hv, h1, h2, fun hne => ?_⟩
  have hp : 0 < rs.length := List.length_pos_iff.2 hne
  obtain ⟨b, off, c', u, hv', -, -⟩ := h.recs_get hp
  rw [hv] at hv'
  injection hv' with e1 e2 e3
  subst e1
  refine ⟨b, off, rfl, fun k hk => ?_⟩
  obtain ⟨b2, off2, c2, u2, hv2, hc2, hr2⟩ := h.recs_get hk
  rw [hv] at hv2
  injection hv2 with e1 e2 e3
  injection e1 with e1
  injection e1 with e1 e4
  subst e1 e4
  exact ⟨u2, hc2, hr2⟩
set_option maxRecDepth 100000 in
set_option maxHeartbeats 1000000 in
theorem equalf_any (w : World) (v u : Value) (rs : List (List UInt8)) (hv : RdR w v rs) (hu : RdR w u rs) :
    Calls Tryz.prog 25 #[v, u, .func (.func 26) #[] #[]] w fun e w' => e = .returned (.bool true) ∧ w = w' := by
  obtain ⟨A, c, rfl, a1, a2, hA⟩ := hv
  obtain ⟨C, e, rfl, b1, b2, hC⟩ := hu
  have HA := hid (And.intro hA hC)
  clear hA hC
  go_enter Tryz.func25, Tryz.ntmps25
  go_wp2_with fail
  go_loopw [17] (fun iv wr => ∃ k : Nat, k ≤ rs.length ∧ iv = .int .i64 k ∧ wr = w) (fun iv _ => rs.length - (intOf iv).toNat)
  case atStart => exact ⟨0, Nat.zero_le _, rfl, rfl⟩
  case round =>
    obtain ⟨k, hk, rfl, rfl⟩ := hrel
    by_cases hlt : k < rs.length
    · have hne : rs ≠ [] := by intro h; rw [h] at hlt; simp at hlt
      obtain ⟨b, off, rfl, hc1⟩ := HA.out.1 hne
      obtain ⟨b', off', rfl, hc2⟩ := HA.out.2 hne
      obtain ⟨u1, d1, r1⟩ := hc1 k hlt
      obtain ⟨u2, d2, r2⟩ := hc2 k hlt
      have HE := hid (bequal_any (fun _ => True) (fun _ => True) wr u1 u2 rs[k] rs[k] r1 r2)
      rw [beq_self_eq_true] at HE
      have h0 : (0 : Int) ≤ (k : Int) := by omega
      have h1 : (k : Int) < (rs.length : Int) := by omega
      obtain ⟨A1, c1, rfl, -⟩ := r1
      obtain ⟨A2, c2, rfl, -⟩ := r2
      clear hc1 hc2 hne
      go_wp2_with (first
        | (go_at_call 26; refine HE.out.mono ?_; rintro e w2 ⟨rfl, rfl⟩))
      exact ⟨⟨k + 1, by omega, by simp, by trivial⟩, by show rs.length - ((k : Int) + 1).toNat < rs.length - (k : Int).toNat; omega⟩
    · go_wp2_with fail
      go_ret
      exact ⟨rfl, rfl⟩

/-- a log on an empty disk. -/
def begunDk (k : Nat) : Dk := Slog.opened (Dk.empty k) []
def begunLg : Lg := ⟨[], 1, 1, 1⟩
theorem begun_held {w0 w : World} {B : List Res} (h : Held w0 w B) (k : Nat) (hk : k ≤ 16777216) :
    Calls Tryz.prog 22 #[.int .i64 k] w fun e w' => ∃ p q, e = .returned (.tuple #[.pointer (some ⟨p, 0, none⟩), .pointer (some ⟨q, 0, none⟩), .bool true]) ∧ Held w0 w' (rLog q p begunLg.segs begunLg.next :: rDisk p (begunDk k) :: B) := by
  have HN := hid (new_held h k hk)
  have HO := hid (fun w1 p (g1 : Held w0 w1 (rDisk p (Dk.empty k) :: B)) => open_held g1 (Slog.begun_left k hk) (k := 1) (n := 1) rfl ⟨Nat.le_refl _, fun _ => rfl⟩ (fun ls s e => by simp at e) (fun s hs => by cases hs) (by decide) (by simp [Dk.empty]))
  clear h
  go_enter Tryz.func22, Tryz.ntmps22
  go_wp2_with (first
    | (go_at_call 28; refine HN.out.mono ?_; rintro e w1 ⟨p, rfl, g1⟩; have G1 := hid g1; clear g1)
    | (go_at_call 19; refine (HO.out _ _ G1.out).mono ?_; rintro e w2 ⟨q, rfl, g2⟩; have G2 := hid g2; clear g2))
  go_ret3
  exact ⟨p, q, rfl, G2.out⟩
end Go.Proofs.YtbpgclhpbiohpaaGreatDoor
