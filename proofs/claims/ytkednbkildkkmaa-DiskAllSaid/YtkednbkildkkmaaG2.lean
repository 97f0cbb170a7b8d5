/- disk: the laws' 'does'. -/
import Derived.Test.YtkednbkildkkmaaG1
namespace Go.Proofs.Ytkednbkildkkmaa
open Go.RowKit
open Disk

theorem u8_mod (k : Int) : wrap64 ((IntKind.u64.wrap k).tmod 8) = k % 8 := by
  have h0 : IntKind.u64.wrap k = k % 18446744073709551616 := by unfold IntKind.wrap IntKind.bits IntKind.signed; simp
  rw [h0, Int.tmod_eq_emod_of_nonneg (by omega)]
  unfold wrap64
  omega
theorem Src.cons {w0 : World} {B : List Res} {v : Value} {xs : List Value} (h : Src w0 [] B v xs) (x : Res) : Src w0 [] (x :: B) v xs := fun w' M hh => h w' (M ++ [x]) (by simpa using hh)
theorem src_old {w0 : World} {B : List Res} {v : Value} {xs : List Value} (h : Rd (· < w0.heap.size) w0 v xs) : Src w0 [] B v xs := fun w' M hh => (hh.rd h).mono fun _ _ _ => trivial
theorem call_of {d : Dk} {k : Do} {o : Int} (h : k.op % 8 = o) : d.call k = if o = 3 then d.cut k.name k.n else if o = 4 then d.drop k.name else if o = 5 then d.sync k.name
  else if o = 6 then (d.flush, 0) else if o = 7 then (d.crash k.keep k.n, 0) else d.write k.name k.b := by subst h; rfl
theorem o8_cases (k : Int) : k % 8 = 0 ∨ k % 8 = 1 ∨ k % 8 = 2 ∨ k % 8 = 3 ∨ k % 8 = 4 ∨ k % 8 = 5 ∨ k % 8 = 6 ∨ k % 8 = 7 := by omega

set_option maxRecDepth 100000 in
set_option maxHeartbeats 2000000 in
theorem does_held {w0 w : World} {B : List Res} {p : Nat} {d : Dk} (h : Held w0 w (rDisk p d :: B)) (hok : d.Ok) (hpl : d.pending.length ≤ 1000000) (k : Do) (hw : DoWf k) (bA kA : Option Addr) (bc kc : Nat)
    (hb : Src w0 [] B (.slice bA k.b.length bc) (bytesV k.b)) (hk : Src w0 [] B (.slice kA k.keep.length kc) (boolsV k.keep)) (hbl : k.b.length ≤ 1000000000) :
    Calls Try.prog 17 #[.pointer (some ⟨p, 0, none⟩), .agg #[.int .i64 k.op, sv k.name, .slice bA k.b.length bc, .int .i64 k.n, .slice kA k.keep.length kc]] w fun e w' => e = .returned (.int .i64 (d.call k).2) ∧ Held w0 w' (rDisk p (d.call k).1 :: B) := by
  have g0 := (h.block 35 #[.int .i64 k.op, sv k.name, .slice bA k.b.length bc, .int .i64 k.n, .slice kA k.keep.length kc]).pull1
  have hname := hw.name
  have hu := u8_mod k.op
  rcases o8_cases k.op with hq | hq | hq | hq | hq | hq | hq | hq
  · have HC := hid (show d.call k = d.write k.name k.b from call_of hq)
    have CC := hid (write_held g0 hok hpl k.name hname k.b bA bc (hb.cons _) hbl)
    rw [hq] at hu
    clear h g0 hok hpl hb hk hw hq hname
    unfold sv at CC ⊢
    go_enter Try.func17, Try.ntmps17
    go_wp2_with fail
    refine CC.out.mono ?_
    rintro e w1 ⟨rfl, g1⟩
    have G1 := hid g1
    clear g1
    go_wp2_with fail
    go_ret
    rw [HC.out]
    exact ⟨rfl, Held.drop0 (Held.pull1 G1.out)⟩
  · have HC := hid (show d.call k = d.write k.name k.b from call_of hq)
    have CC := hid (write_held g0 hok hpl k.name hname k.b bA bc (hb.cons _) hbl)
    rw [hq] at hu
    clear h g0 hok hpl hb hk hw hq hname
    unfold sv at CC ⊢
    go_enter Try.func17, Try.ntmps17
    go_wp2_with fail
    refine CC.out.mono ?_
    rintro e w1 ⟨rfl, g1⟩
    have G1 := hid g1
    clear g1
    go_wp2_with fail
    go_ret
    rw [HC.out]
    exact ⟨rfl, Held.drop0 (Held.pull1 G1.out)⟩
  · have HC := hid (show d.call k = d.write k.name k.b from call_of hq)
    have CC := hid (write_held g0 hok hpl k.name hname k.b bA bc (hb.cons _) hbl)
    rw [hq] at hu
    clear h g0 hok hpl hb hk hw hq hname
    unfold sv at CC ⊢
    go_enter Try.func17, Try.ntmps17
    go_wp2_with fail
    refine CC.out.mono ?_
    rintro e w1 ⟨rfl, g1⟩
    have G1 := hid g1
    clear g1
    go_wp2_with fail
    go_ret
    rw [HC.out]
    exact ⟨rfl, Held.drop0 (Held.pull1 G1.out)⟩
  · have HC := hid (show d.call k = d.cut k.name k.n from call_of hq)
    have CC := hid (cut_held g0 hok hpl k.name hname k.n)
    rw [hq] at hu
    clear h g0 hok hpl hb hk hw hq hname
    unfold sv at CC ⊢
    go_enter Try.func17, Try.ntmps17
    go_wp2_with fail
    refine CC.out.mono ?_
    rintro e w1 ⟨rfl, g1⟩
    have G1 := hid g1
    clear g1
    go_wp2_with fail
    go_ret
    rw [HC.out]
    exact ⟨rfl, Held.drop0 (Held.pull1 G1.out)⟩
  · have HC := hid (show d.call k = d.drop k.name from call_of hq)
    have CC := hid (drop_held g0 hok hpl k.name hname)
    rw [hq] at hu
    clear h g0 hok hpl hb hk hw hq hname
    unfold sv at CC ⊢
    go_enter Try.func17, Try.ntmps17
    go_wp2_with fail
    refine CC.out.mono ?_
    rintro e w1 ⟨rfl, g1⟩
    have G1 := hid g1
    clear g1
    go_wp2_with fail
    go_ret
    rw [HC.out]
    exact ⟨rfl, Held.drop0 (Held.pull1 G1.out)⟩
  · have HC := hid (show d.call k = d.sync k.name from call_of hq)
    have CC := hid (sync_held g0 hok hpl k.name hname)
    rw [hq] at hu
    clear h g0 hok hpl hb hk hw hq hname
    unfold sv at CC ⊢
    go_enter Try.func17, Try.ntmps17
    go_wp2_with fail
    refine CC.out.mono ?_
    rintro e w1 ⟨rfl, g1⟩
    have G1 := hid g1
    clear g1
    go_wp2_with fail
    go_ret
    rw [HC.out]
    exact ⟨rfl, Held.drop0 (Held.pull1 G1.out)⟩
  · have HC := hid (show d.call k = (d.flush, 0) from call_of hq)
    have CC := hid (flush_held g0 hok hpl)
    rw [hq] at hu
    clear h g0 hok hpl hb hk hw hq hname
    unfold sv at CC ⊢
    go_enter Try.func17, Try.ntmps17
    go_wp2_with fail
    refine CC.out.mono ?_
    rintro e w1 ⟨rfl, g1⟩
    have G1 := hid g1
    clear g1
    go_wp2_with fail
    go_ret
    rw [HC.out]
    exact ⟨rfl, Held.drop0 (Held.pull1 G1.out)⟩
  · have HC := hid (show d.call k = (d.crash k.keep k.n, 0) from call_of hq)
    have CC := hid (crash_held g0 hok hpl k.keep kA kc (hk.cons _) k.n)
    rw [hq] at hu
    clear h g0 hok hpl hb hk hw hq hname
    unfold sv at CC ⊢
    go_enter Try.func17, Try.ntmps17
    go_wp2_with fail
    refine CC.out.mono ?_
    rintro e w1 ⟨rfl, g1⟩
    have G1 := hid g1
    clear g1
    go_wp2_with fail
    go_ret
    rw [HC.out]
    exact ⟨rfl, Held.drop0 (Held.pull1 G1.out)⟩
end Go.Proofs.Ytkednbkildkkmaa
