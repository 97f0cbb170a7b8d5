/- seglog: each call of a log, or on a disk, that no call made; SeglogNobody's walk. -/
import Derived.Test.YtbpgclhpbiohpaaGreatDoorU2
namespace Go.Proofs.YtbpgclhpbiohpaaGreatDoor
open Go.RowKit
open Slog (Seg recsOf nameB Lg)
open Disk (Dk)

def DNot (v : Value) (w : World) : Prop := v = .pointer none ∨ ∃ b, v = .pointer (some ⟨b, 0, none⟩) ∧ w.cell? ⟨b, 1, none⟩ = some (.map none)
theorem dmade_no (v : Value) (w : World) (h : DNot v w) : Calls Tryz.prog 51 #[v] w fun e w' => e = .returned (.bool false) ∧ w = w' := by
  rcases h with rfl | ⟨b, rfl, hc⟩
  · go_enter Tryz.func51, Tryz.ntmps51
    go_wp2_with fail
    go_ret
    exact ⟨rfl, rfl⟩
  · exact dmade_any w b none hc
theorem dclone_no (v : Value) (w : World) (h : DNot v w) : Calls Tryz.prog 44 #[v] w fun e w' => e = .returned (.pointer none) ∧ w = w' := by
  have HM := hid (dmade_no v w h)
  clear h
  go_enter Tryz.func44, Tryz.ntmps44
  go_wp2_with (first | (go_at_call 51; refine HM.out.mono ?_; rintro e w' ⟨rfl, rfl⟩))
  go_ret
  exact ⟨rfl, rfl⟩
theorem open_no (v : Value) (w : World) (h : DNot v w) : Calls Tryz.prog 19 #[v] w fun e w' => e = .returned (.tuple #[.pointer none, .int .i64 8]) ∧ w = w' := by
  have HM := hid (dclone_no v w h)
  clear h
  go_enter Tryz.func19, Tryz.ntmps19
  go_wp2_with (first | (go_at_call 44; refine HM.out.mono ?_; rintro e w' ⟨rfl, rfl⟩))
  go_ret2
  exact ⟨rfl, rfl⟩

def LNot (v : Value) (w : World) : Prop := v = .pointer none ∨ ∃ b, v = .pointer (some ⟨b, 0, none⟩) ∧ w.cell? ⟨b, 0, none⟩ = some (.pointer none)
theorem LNot.step {v : Value} {w w' : World} (h : LNot v w) (hm : Mod (fun _ => False) w w') : LNot v w' := by
  rcases h with h | ⟨b, h, hc⟩
  · exact .inl h
  · exact .inr ⟨b, h, hm.cell hc (fun h => h)⟩
theorem DNot.step {v : Value} {w w' : World} (h : DNot v w) (hm : Mod (fun _ => False) w w') : DNot v w' := by
  rcases h with h | ⟨b, h, hc⟩
  · exact .inl h
  · exact .inr ⟨b, h, hm.cell hc (fun h => h)⟩
theorem lmade_no (v : Value) (w : World) (h : LNot v w) : Calls Tryz.prog 35 #[v] w fun e w' => e = .returned (.bool false) ∧ w = w' := by
  rcases h with rfl | ⟨b, rfl, hc⟩
  · go_enter Tryz.func35, Tryz.ntmps35
    go_wp2_with fail
    go_ret
    exact ⟨rfl, rfl⟩
  · go_enter Tryz.func35, Tryz.ntmps35
    go_wp2_with fail
    go_ret
    exact ⟨rfl, rfl⟩
theorem lappend_no (v : Value) (w : World) (u : Value) (h : LNot v w) : Calls Tryz.prog 10 #[v, u] w fun e w' => e = .returned (.tuple #[.int .i64 0, .int .i64 8]) ∧ w = w' := by
  have HM := hid (lmade_no v w h)
  clear h
  go_enter Tryz.func10, Tryz.ntmps10
  go_wp2_with (first | (go_at_call 35; refine HM.out.mono ?_; rintro e w' ⟨rfl, rfl⟩))
  go_ret2
  exact ⟨rfl, rfl⟩
theorem lsync_no (v : Value) (w : World) (h : LNot v w) : Calls Tryz.prog 12 #[v] w fun e w' => e = .returned (.int .i64 8) ∧ w = w' := by
  have HM := hid (lmade_no v w h)
  clear h
  go_enter Tryz.func12, Tryz.ntmps12
  go_wp2_with (first | (go_at_call 35; refine HM.out.mono ?_; rintro e w' ⟨rfl, rfl⟩))
  go_ret
  exact ⟨rfl, rfl⟩
theorem ltrim_no (v : Value) (w : World) (n : Int) (h : LNot v w) : Calls Tryz.prog 13 #[v, .int .i64 n] w fun e w' => e = .returned (.int .i64 8) ∧ w = w' := by
  have HM := hid (lmade_no v w h)
  clear h
  go_enter Tryz.func13, Tryz.ntmps13
  go_wp2_with (first | (go_at_call 35; refine HM.out.mono ?_; rintro e w' ⟨rfl, rfl⟩))
  go_ret
  exact ⟨rfl, rfl⟩
theorem lread_no (v : Value) (w : World) (n : Int) (h : LNot v w) : Calls Tryz.prog 14 #[v, .int .i64 n] w fun e w' => e = .returned (.slice none 0 0) ∧ w = w' := by
  have HM := hid (lmade_no v w h)
  clear h
  go_enter Tryz.func14, Tryz.ntmps14
  go_wp2_with (first | (go_at_call 35; refine HM.out.mono ?_; rintro e w' ⟨rfl, rfl⟩))
  go_ret
  exact ⟨rfl, rfl⟩
theorem lfirst_no (v : Value) (w : World) (h : LNot v w) : Calls Tryz.prog 15 #[v] w fun e w' => e = .returned (.int .i64 0) ∧ w = w' := by
  have HM := hid (lmade_no v w h)
  clear h
  go_enter Tryz.func15, Tryz.ntmps15
  go_wp2_with (first | (go_at_call 35; refine HM.out.mono ?_; rintro e w' ⟨rfl, rfl⟩))
  go_ret
  exact ⟨rfl, rfl⟩
theorem lnext_no (v : Value) (w : World) (h : LNot v w) : Calls Tryz.prog 16 #[v] w fun e w' => e = .returned (.int .i64 0) ∧ w = w' := by
  have HM := hid (lmade_no v w h)
  clear h
  go_enter Tryz.func16, Tryz.ntmps16
  go_wp2_with (first | (go_at_call 35; refine HM.out.mono ?_; rintro e w' ⟨rfl, rfl⟩))
  go_ret
  exact ⟨rfl, rfl⟩
theorem lsegments_no (v : Value) (w : World) (h : LNot v w) : Calls Tryz.prog 17 #[v] w fun e w' => e = .returned (.int .i64 0) ∧ w = w' := by
  have HM := hid (lmade_no v w h)
  clear h
  go_enter Tryz.func17, Tryz.ntmps17
  go_wp2_with (first | (go_at_call 35; refine HM.out.mono ?_; rintro e w' ⟨rfl, rfl⟩))
  go_ret
  exact ⟨rfl, rfl⟩
theorem lbytes_no (v : Value) (w : World) (h : LNot v w) : Calls Tryz.prog 18 #[v] w fun e w' => e = .returned (.int .i64 0) ∧ w = w' := by
  have HM := hid (lmade_no v w h)
  clear h
  go_enter Tryz.func18, Tryz.ntmps18
  go_wp2_with (first | (go_at_call 35; refine HM.out.mono ?_; rintro e w' ⟨rfl, rfl⟩))
  go_ret
  exact ⟨rfl, rfl⟩

set_option maxHeartbeats 1000000 in
/-- slices.Clone of bytes as long as they may be. -/
theorem clone_bytes47 (S : Nat → Prop) (w : World) (v : Value) (l : List UInt8) (h : Rd S w v (bytesV l)) (hl : l.length ≤ 140737488355328) :
    Calls Tryz.prog 11 #[v] w fun e w' => ∃ v', e = .returned v' ∧ Mod (fun _ => False) w w' := by
  obtain ⟨A, c, hv, hc, hmx, hA⟩ := id h
  rw [bytesV_length] at hc hv
  subst hv
  have eN := fun (w : World) (a : Option Addr) (n c : Nat) => Lib.run_eql_slice_nil (P := Tryz.prog) w 22 5 a n c 0 0 Tryz.underlying22
  cases A with
  | none =>
    have : l = [] := by
      cases l with
      | nil => rfl
      | cons _ _ => obtain ⟨_, _, h, _⟩ := hA (by simp [bytesV]); cases h
    subst this
    clear h hA
    go_enter Tryz.func11, Tryz.ntmps11
    go_wp2
    go_ret
    exact ⟨_, rfl, Mod.refl _ _⟩
  | some ad =>
    obtain ⟨i0, hi, hz0, hz1, hz2⟩ := info_parts Tryz.info5
    have HH := hid h
    have HI := hid (And.intro hi (And.intro hz0 (And.intro hz1 hz2)))
    have HL := hid hl
    clear h hA hi hz0 hz1 hz2 hl hmx
    go_enter Tryz.func11, Tryz.ntmps11
    have HO := hid (Own.made 5 w)
    go_wp2_with (at_builtin; refine wpList_append_rd _ rfl _ _ 22 rfl 5 i0 (.int .u8 0) 1 Tryz.underlying22 HI.out.1 HI.out.2.1 HI.out.2.2.1 HI.out.2.2.2 rfl _ 0 [] _ rfl HO.out S (.slice (some ad) l.length c) (bytesV l) rfl (HH.out.alloc _) (bytesV_one l) ?c1 ?c2 ?c3)
    case c1 => have := HL.out; rw [bytesV_length]; omega
    case c2 => have := HL.out; rw [bytesV_length]; unfold maxLen; omega
    case c3 =>
      intro v' w1 F' hown hu
      have HP := hid (Upd.new ((Mod.refl _ w).alloc _) hu (by simp))
      clear hown hu
      go_wp2
      go_ret
      exact ⟨_, rfl, HP.out.mod.mono (fun _ _ h => by simp at h)⟩

theorem alloc_size (w : World) (o : Obj) : (w.alloc o).heap.size = w.heap.size + 1 := by show (w.heap.push o).size = _; rw [Array.size_push]
set_option maxRecDepth 100000 in
set_option maxHeartbeats 4000000 in
theorem nobody_walk (w : World) (v : Value) (l : List UInt8) (hv : Rd (· < w.heap.size) w v (bytesV l)) (hl : l.length ≤ 140737488355328) (n : Int) :
    Calls Tryz.prog 3 #[v, .int .i64 n] w fun e w' => e = .returned (.bool true) ∧ Below w.heap.size w w' := by
  obtain ⟨A, c, rfl, -⟩ := id hv
  rw [bytesV_length] at hv ⊢
  have HV := hid hv
  clear hv
  go_enter Tryz.func3, Tryz.ntmps3
  go_wp2_with fail
  have g0 := (((Held.begin w).block 28 #[.pointer none, .slice none 0 0, .slice none 0 0, .int .i64 0]).block 23 #[.pointer none, .pointer (some ⟨w.heap.size, 0, none⟩)])
  have hv0 := (HV.out.alloc (.cells #[.pointer none, .slice none 0 0, .slice none 0 0, .int .i64 0] 28)).alloc (.cells #[.pointer none, .pointer (some ⟨w.heap.size, 0, none⟩)] 23)
  rw [alloc_size] at g0
  generalize ((w.alloc (.cells #[.pointer none, .slice none 0 0, .slice none 0 0, .int .i64 0] 28)).alloc (.cells #[.pointer none, .pointer (some ⟨w.heap.size, 0, none⟩)] 23)) = wL at *
  generalize hlb : w.heap.size + 1 = lb at *
  generalize hb0 : w.heap.size = b0 at *
  have x0 : wL.cell? ⟨lb, 0, none⟩ = some (.pointer none) := g0.blk0.cell rfl
  have x1 : wL.cell? ⟨lb, 1, none⟩ = some (.pointer (some ⟨b0, 0, none⟩)) := g0.blk0.cell rfl
  have HG1 := hid g0
  have HV1 := hid hv0
  have HB0 := hid hb0
  clear g0 hv0 hlb hb0 HV
  refine wp_loop_rounds 3 ?_
  rw [rounds_succ]
  go_wp2_with (first
    | (go_at_call 11; refine (clone_bytes47 _ _ _ l HV1.out hl).mono ?_; rintro e wa ⟨u1, rfl, m1⟩; have g1 := HG1.out.step m1; have y0 : wa.cell? ⟨lb, 0, none⟩ = some (.pointer none) := g1.blk0.cell rfl; have y1 : wa.cell? ⟨lb, 1, none⟩ = some (.pointer (some ⟨b0, 0, none⟩)) := g1.blk0.cell rfl; have HV2 := hid (HV1.out.keep (fun b hb hlt => m1.block b hlt (fun h => h))); have HN1 := hid (show LNot (.pointer none) wa from Or.inl rfl); have HG2 := hid g1; clear g1 m1)
    | (go_at_call 10; refine (lappend_no _ _ _ HN1.out).mono ?_; rintro e w' ⟨rfl, rfl⟩)
    | (go_at_call 12; refine (lsync_no _ _ HN1.out).mono ?_; rintro e w' ⟨rfl, rfl⟩)
    | (go_at_call 13; refine (ltrim_no _ _ _ HN1.out).mono ?_; rintro e w' ⟨rfl, rfl⟩)
    | (go_at_call 14; refine (lread_no _ _ _ HN1.out).mono ?_; rintro e w' ⟨rfl, rfl⟩)
    | (go_at_call 15; refine (lfirst_no _ _ HN1.out).mono ?_; rintro e w' ⟨rfl, rfl⟩)
    | (go_at_call 16; refine (lnext_no _ _ HN1.out).mono ?_; rintro e w' ⟨rfl, rfl⟩)
    | (go_at_call 17; refine (lsegments_no _ _ HN1.out).mono ?_; rintro e w' ⟨rfl, rfl⟩)
    | (go_at_call 18; refine (lbytes_no _ _ HN1.out).mono ?_; rintro e w' ⟨rfl, rfl⟩))
  clear x0 x1 HN1
  rw [rounds_succ]
  go_wp2_with (first
    | (go_at_call 11; refine (clone_bytes47 _ _ _ l HV2.out hl).mono ?_; rintro e wb ⟨u2, rfl, m1⟩; have g1 := HG2.out.step m1; have y0 : wb.cell? ⟨lb, 0, none⟩ = some (.pointer none) := g1.blk0.cell rfl; have y1 : wb.cell? ⟨lb, 1, none⟩ = some (.pointer (some ⟨b0, 0, none⟩)) := g1.blk0.cell rfl; have HV3 := hid (HV2.out.keep (fun b hb hlt => m1.block b hlt (fun h => h))); have HN2 := hid (show LNot (.pointer (some ⟨b0, 0, none⟩)) wb from Or.inr ⟨b0, rfl, g1.pull1.blk0.cell rfl⟩); have HG3 := hid g1; clear g1 m1)
    | (go_at_call 10; refine (lappend_no _ _ _ HN2.out).mono ?_; rintro e w' ⟨rfl, rfl⟩)
    | (go_at_call 12; refine (lsync_no _ _ HN2.out).mono ?_; rintro e w' ⟨rfl, rfl⟩)
    | (go_at_call 13; refine (ltrim_no _ _ _ HN2.out).mono ?_; rintro e w' ⟨rfl, rfl⟩)
    | (go_at_call 14; refine (lread_no _ _ _ HN2.out).mono ?_; rintro e w' ⟨rfl, rfl⟩)
    | (go_at_call 15; refine (lfirst_no _ _ HN2.out).mono ?_; rintro e w' ⟨rfl, rfl⟩)
    | (go_at_call 16; refine (lnext_no _ _ HN2.out).mono ?_; rintro e w' ⟨rfl, rfl⟩)
    | (go_at_call 17; refine (lsegments_no _ _ HN2.out).mono ?_; rintro e w' ⟨rfl, rfl⟩)
    | (go_at_call 18; refine (lbytes_no _ _ HN2.out).mono ?_; rintro e w' ⟨rfl, rfl⟩))
  rw [rounds_succ]
  go_wp2_with fail
  have g2 := ((HG3.out.block 43 #[.int .i64 0, .map none, .map none, .slice none 0 0, .map none]).block 24 #[.pointer none, .pointer (some ⟨wb.heap.size, 0, none⟩)])
  rw [alloc_size] at g2
  clear y0 y1 HN2 HG3 HV3 HG1 HG2 HV1 HV2
  generalize ((wb.alloc (.cells #[.int .i64 0, .map none, .map none, .slice none 0 0, .map none] 43)).alloc (.cells #[.pointer none, .pointer (some ⟨wb.heap.size, 0, none⟩)] 24)) = wM at *
  generalize wb.heap.size + 1 = lc at *
  generalize wb.heap.size = b2 at *
  have x0 : wM.cell? ⟨lc, 0, none⟩ = some (.pointer none) := g2.blk0.cell rfl
  have x1 : wM.cell? ⟨lc, 1, none⟩ = some (.pointer (some ⟨b2, 0, none⟩)) := g2.blk0.cell rfl
  have HD1 := hid (show DNot (.pointer none) wM from Or.inl rfl)
  have HD2 := hid (show DNot (.pointer (some ⟨b2, 0, none⟩)) wM from Or.inr ⟨b2, rfl, g2.pull1.blk0.cell rfl⟩)
  have HG := hid g2
  clear g2
  refine wp_loop_rounds 3 ?_
  rw [rounds_succ]
  go_wp2_with (first | (go_at_call 19; refine (open_no _ _ HD1.out).mono ?_; rintro e w' ⟨rfl, rfl⟩))
  rw [rounds_succ]
  go_wp2_with (first | (go_at_call 19; refine (open_no _ _ HD2.out).mono ?_; rintro e w' ⟨rfl, rfl⟩))
  rw [rounds_succ]
  go_wp2_with (first | (go_at_call 20; refine (awake_any _).mono ?_; rintro e w9 ⟨rfl, m9⟩; have HE := hid (HG.out.step m9); clear m9))
  go_ret
  exact ⟨rfl, HE.out.below⟩
end Go.Proofs.YtbpgclhpbiohpaaGreatDoor
