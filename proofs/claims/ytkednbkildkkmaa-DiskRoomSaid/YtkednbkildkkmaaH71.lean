/- disk: each call of a disk that no call made. -/
import Derived.Test.YtkednbkildkkmaaH5
import Derived.Deep.CutBlock
import Derived.Deep.DeepCutAuto
import Derived.Deep.RegionLaw
import Derived.BigQuiet
namespace Go.Proofs.Ytkednbkildkkmaa
open Go.RowKit
open Disk

def NotMade (v : Value) (w : World) : Prop := v = .pointer none ∨ ∃ b, v = .pointer (some ⟨b, 0, none⟩) ∧ w.cell? ⟨b, 1, none⟩ = some (.map none)
theorem NotMade.step {v : Value} {w w' : World} (h : NotMade v w) (hm : Mod (fun _ => False) w w') : NotMade v w' := by
  rcases h with h | ⟨b, h, hc⟩
  · exact .inl h
  · exact .inr ⟨b, h, hm.cell hc (fun h => h)⟩

set_option maxRecDepth 100000 in
theorem made_no (v : Value) (w : World) (h : NotMade v w) : Calls Try.prog 39 #[v] w fun e w' => e = .returned (.bool false) ∧ w = w' := by
  rcases h with rfl | ⟨b, rfl, hc⟩
  · go_enter Try.func39, Try.ntmps39
    go_wp2_with fail
    go_ret
    exact ⟨rfl, rfl⟩
  · exact dmade_any w b none hc
set_option maxRecDepth 100000 in
theorem look_no (v : Value) (w : World) (s : ByteArray) (h : NotMade v w) :
    Calls Try.prog 32 #[v, .string s] w fun e w' => e = .returned (.tuple #[.pointer none, .int .i64 8]) ∧ w = w' := by
  have HM := hid (made_no v w h)
  clear h
  go_enter Try.func32, Try.ntmps32
  go_wp2_with (first
    | (go_at_call 39; refine HM.out.mono ?_; rintro e w' ⟨rfl, rfl⟩))
  go_ret2
  exact ⟨rfl, rfl⟩

set_option maxRecDepth 100000 in
theorem read_no (v : Value) (w : World) (s : ByteArray) (h : NotMade v w) : Calls Try.prog 16 #[v, .string s] w fun e w' => e = .returned (.tuple #[.slice none 0 0, .int .i64 8]) ∧ Mod (fun _ => False) w w' := by
  have HL := hid (look_no v w s h)
  clear h
  go_enter Try.func16, Try.ntmps16
  go_wp2_with (first | (go_at_call 32; refine HL.out.mono ?_; rintro e w' ⟨rfl, rfl⟩))
  go_ret2
  exact ⟨rfl, by repeat (first | exact Mod.refl _ _ | refine Mod.drewN ?_ _ | refine Mod.drew ?_ | refine Mod.alloc ?_ _)⟩

set_option maxRecDepth 100000 in
theorem write_no (v : Value) (w : World) (s : ByteArray) (u : Value) (h : NotMade v w) : Calls Try.prog 29 #[v, .string s, u] w fun e w' => e = .returned (.int .i64 8) ∧ Mod (fun _ => False) w w' := by
  have HL := hid (look_no v w s h)
  clear h
  go_enter Try.func29, Try.ntmps29
  go_wp2_with (first | (go_at_call 32; refine HL.out.mono ?_; rintro e w' ⟨rfl, rfl⟩))
  go_ret
  exact ⟨rfl, by repeat (first | exact Mod.refl _ _ | refine Mod.drewN ?_ _ | refine Mod.drew ?_ | refine Mod.alloc ?_ _)⟩

set_option maxRecDepth 100000 in
theorem cut_no (v : Value) (w : World) (s : ByteArray) (n : Int) (h : NotMade v w) : Calls Try.prog 37 #[v, .string s, .int .i64 n] w fun e w' => e = .returned (.int .i64 8) ∧ Mod (fun _ => False) w w' := by
  have HL := hid (look_no v w s h)
  clear h
  go_enter Try.func37, Try.ntmps37
  go_wp2_with (first | (go_at_call 32; refine HL.out.mono ?_; rintro e w' ⟨rfl, rfl⟩))
  go_ret
  exact ⟨rfl, by repeat (first | exact Mod.refl _ _ | refine Mod.drewN ?_ _ | refine Mod.drew ?_ | refine Mod.alloc ?_ _)⟩

set_option maxRecDepth 100000 in
theorem drop_no (v : Value) (w : World) (s : ByteArray) (h : NotMade v w) : Calls Try.prog 38 #[v, .string s] w fun e w' => e = .returned (.int .i64 8) ∧ Mod (fun _ => False) w w' := by
  have HL := hid (look_no v w s h)
  clear h
  go_enter Try.func38, Try.ntmps38
  go_wp2_with (first | (go_at_call 32; refine HL.out.mono ?_; rintro e w' ⟨rfl, rfl⟩))
  go_ret
  exact ⟨rfl, by repeat (first | exact Mod.refl _ _ | refine Mod.drewN ?_ _ | refine Mod.drew ?_ | refine Mod.alloc ?_ _)⟩

set_option maxRecDepth 100000 in
theorem sync_no (v : Value) (w : World) (s : ByteArray) (h : NotMade v w) : Calls Try.prog 14 #[v, .string s] w fun e w' => e = .returned (.int .i64 8) ∧ Mod (fun _ => False) w w' := by
  have HL := hid (fun o => look_no v (w.alloc o) s (h.step ((Mod.refl _ _).alloc o)))
  clear h
  go_enter Try.func14, Try.ntmps14
  go_wp2_with (first | (go_at_call 32; refine (HL.out _).mono ?_; rintro e w' ⟨rfl, rfl⟩))
  go_ret
  exact ⟨rfl, by repeat (first | exact Mod.refl _ _ | refine Mod.drewN ?_ _ | refine Mod.drew ?_ | refine Mod.alloc ?_ _)⟩

set_option maxRecDepth 100000 in
theorem flush_no (v : Value) (w : World)  (h : NotMade v w) : Calls Try.prog 20 #[v] w fun e w' => e = .returned (.int .i64 8) ∧ Mod (fun _ => False) w w' := by
  have HM := hid (made_no v w h)
  clear h
  go_enter Try.func20, Try.ntmps20
  go_wp2_with (first | (go_at_call 39; refine HM.out.mono ?_; rintro e w' ⟨rfl, rfl⟩))
  go_ret
  exact ⟨rfl, by repeat (first | exact Mod.refl _ _ | refine Mod.drewN ?_ _ | refine Mod.drew ?_ | refine Mod.alloc ?_ _)⟩

set_option maxRecDepth 100000 in
theorem crash_no (v : Value) (w : World) (u : Value) (n : Int) (h : NotMade v w) : Calls Try.prog 18 #[v, u, .int .i64 n] w fun e w' => e = .returned (.int .i64 8) ∧ Mod (fun _ => False) w w' := by
  have HM := hid (made_no v w h)
  clear h
  go_enter Try.func18, Try.ntmps18
  go_wp2_with (first | (go_at_call 39; refine HM.out.mono ?_; rintro e w' ⟨rfl, rfl⟩))
  go_ret
  exact ⟨rfl, by repeat (first | exact Mod.refl _ _ | refine Mod.drewN ?_ _ | refine Mod.drew ?_ | refine Mod.alloc ?_ _)⟩

set_option maxRecDepth 100000 in
theorem clone_no (v : Value) (w : World)  (h : NotMade v w) : Calls Try.prog 21 #[v] w fun e w' => e = .returned (.pointer none) ∧ Mod (fun _ => False) w w' := by
  have HM := hid (made_no v w h)
  clear h
  go_enter Try.func21, Try.ntmps21
  go_wp2_with (first | (go_at_call 39; refine HM.out.mono ?_; rintro e w' ⟨rfl, rfl⟩))
  go_ret
  exact ⟨rfl, by repeat (first | exact Mod.refl _ _ | refine Mod.drewN ?_ _ | refine Mod.drew ?_ | refine Mod.alloc ?_ _)⟩

set_option maxRecDepth 100000 in
theorem list_no (v : Value) (w : World)  (h : NotMade v w) : Calls Try.prog 22 #[v] w fun e w' => e = .returned (.slice none 0 0) ∧ Mod (fun _ => False) w w' := by
  have HM := hid (made_no v w h)
  clear h
  go_enter Try.func22, Try.ntmps22
  go_wp2_with (first | (go_at_call 39; refine HM.out.mono ?_; rintro e w' ⟨rfl, rfl⟩))
  go_ret
  exact ⟨rfl, by repeat (first | exact Mod.refl _ _ | refine Mod.drewN ?_ _ | refine Mod.drew ?_ | refine Mod.alloc ?_ _)⟩

set_option maxRecDepth 100000 in
theorem pending_no (v : Value) (w : World)  (h : NotMade v w) : Calls Try.prog 24 #[v] w fun e w' => e = .returned (.int .i64 0) ∧ Mod (fun _ => False) w w' := by
  have HM := hid (made_no v w h)
  clear h
  go_enter Try.func24, Try.ntmps24
  go_wp2_with (first | (go_at_call 39; refine HM.out.mono ?_; rintro e w' ⟨rfl, rfl⟩))
  go_ret
  exact ⟨rfl, by repeat (first | exact Mod.refl _ _ | refine Mod.drewN ?_ _ | refine Mod.drew ?_ | refine Mod.alloc ?_ _)⟩

set_option maxRecDepth 100000 in
theorem used_no (v : Value) (w : World)  (h : NotMade v w) : Calls Try.prog 25 #[v] w fun e w' => e = .returned (.int .i64 0) ∧ Mod (fun _ => False) w w' := by
  have HM := hid (made_no v w h)
  clear h
  go_enter Try.func25, Try.ntmps25
  go_wp2_with (first | (go_at_call 39; refine HM.out.mono ?_; rintro e w' ⟨rfl, rfl⟩))
  go_ret
  exact ⟨rfl, by repeat (first | exact Mod.refl _ _ | refine Mod.drewN ?_ _ | refine Mod.drew ?_ | refine Mod.alloc ?_ _)⟩

set_option maxRecDepth 100000 in
theorem room_no (v : Value) (w : World)  (h : NotMade v w) : Calls Try.prog 26 #[v] w fun e w' => e = .returned (.int .i64 0) ∧ Mod (fun _ => False) w w' := by
  have HM := hid (made_no v w h)
  clear h
  go_enter Try.func26, Try.ntmps26
  go_wp2_with (first | (go_at_call 39; refine HM.out.mono ?_; rintro e w' ⟨rfl, rfl⟩))
  go_ret
  exact ⟨rfl, by repeat (first | exact Mod.refl _ _ | refine Mod.drewN ?_ _ | refine Mod.drew ?_ | refine Mod.alloc ?_ _)⟩

set_option maxRecDepth 100000 in
set_option maxHeartbeats 2000000 in
theorem does_no (v : Value) (w : World) (k : Do) (bA kA : Option Addr) (bc kc : Nat) (h : NotMade v w) :
    Calls Try.prog 17 #[v, .agg #[.int .i64 k.op, .string ⟨k.name.toArray⟩, .slice bA k.b.length bc, .int .i64 k.n, .slice kA k.keep.length kc]] w fun e w' => e = .returned (.int .i64 8) ∧ Mod (fun _ => False) w w' := by
  have h1 := h.step ((Mod.refl (fun _ => False) w).alloc (.cells #[.int .i64 k.op, .string ⟨k.name.toArray⟩, .slice bA k.b.length bc, .int .i64 k.n, .slice kA k.keep.length kc] 35))
  have hm0 := hid ((Mod.refl (fun _ => False) w).alloc (.cells #[.int .i64 k.op, .string ⟨k.name.toArray⟩, .slice bA k.b.length bc, .int .i64 k.n, .slice kA k.keep.length kc] 35))
  have hu := u8_mod k.op
  clear h
  rcases o8_cases k.op with hq | hq | hq | hq | hq | hq | hq | hq
  · have CC := hid (write_no _ _ ⟨k.name.toArray⟩ (.slice bA k.b.length bc) h1)
    rw [hq] at hu
    clear h1 hq
    go_enter Try.func17, Try.ntmps17
    go_wp2_with fail
    refine CC.out.mono ?_
    rintro e w1 ⟨rfl, hm⟩
    have G1 := hid (hm0.out.trans' hm)
    clear hm
    go_wp2_with fail
    go_ret
    exact ⟨rfl, G1.out⟩
  · have CC := hid (write_no _ _ ⟨k.name.toArray⟩ (.slice bA k.b.length bc) h1)
    rw [hq] at hu
    clear h1 hq
    go_enter Try.func17, Try.ntmps17
    go_wp2_with fail
    refine CC.out.mono ?_
    rintro e w1 ⟨rfl, hm⟩
    have G1 := hid (hm0.out.trans' hm)
    clear hm
    go_wp2_with fail
    go_ret
    exact ⟨rfl, G1.out⟩
  · have CC := hid (write_no _ _ ⟨k.name.toArray⟩ (.slice bA k.b.length bc) h1)
    rw [hq] at hu
    clear h1 hq
    go_enter Try.func17, Try.ntmps17
    go_wp2_with fail
    refine CC.out.mono ?_
    rintro e w1 ⟨rfl, hm⟩
    have G1 := hid (hm0.out.trans' hm)
    clear hm
    go_wp2_with fail
    go_ret
    exact ⟨rfl, G1.out⟩
  · have CC := hid (cut_no _ _ ⟨k.name.toArray⟩ k.n h1)
    rw [hq] at hu
    clear h1 hq
    go_enter Try.func17, Try.ntmps17
    go_wp2_with fail
    refine CC.out.mono ?_
    rintro e w1 ⟨rfl, hm⟩
    have G1 := hid (hm0.out.trans' hm)
    clear hm
    go_wp2_with fail
    go_ret
    exact ⟨rfl, G1.out⟩
  · have CC := hid (drop_no _ _ ⟨k.name.toArray⟩ h1)
    rw [hq] at hu
    clear h1 hq
    go_enter Try.func17, Try.ntmps17
    go_wp2_with fail
    refine CC.out.mono ?_
    rintro e w1 ⟨rfl, hm⟩
    have G1 := hid (hm0.out.trans' hm)
    clear hm
    go_wp2_with fail
    go_ret
    exact ⟨rfl, G1.out⟩
  · have CC := hid (sync_no _ _ ⟨k.name.toArray⟩ h1)
    rw [hq] at hu
    clear h1 hq
    go_enter Try.func17, Try.ntmps17
    go_wp2_with fail
    refine CC.out.mono ?_
    rintro e w1 ⟨rfl, hm⟩
    have G1 := hid (hm0.out.trans' hm)
    clear hm
    go_wp2_with fail
    go_ret
    exact ⟨rfl, G1.out⟩
  · have CC := hid (flush_no _ _ h1)
    rw [hq] at hu
    clear h1 hq
    go_enter Try.func17, Try.ntmps17
    go_wp2_with fail
    refine CC.out.mono ?_
    rintro e w1 ⟨rfl, hm⟩
    have G1 := hid (hm0.out.trans' hm)
    clear hm
    go_wp2_with fail
    go_ret
    exact ⟨rfl, G1.out⟩
  · have CC := hid (crash_no _ _ (.slice kA k.keep.length kc) k.n h1)
    rw [hq] at hu
    clear h1 hq
    go_enter Try.func17, Try.ntmps17
    go_wp2_with fail
    refine CC.out.mono ?_
    rintro e w1 ⟨rfl, hm⟩
    have G1 := hid (hm0.out.trans' hm)
    clear hm
    go_wp2_with fail
    go_ret
    exact ⟨rfl, G1.out⟩
end Go.Proofs.Ytkednbkildkkmaa
