/- kvstore: made, Version, Synced, Bytes, Get. -/
import Derived.Test.YtdbhccehbjhbpaaGreatDoorK6
import Derived.WalkKit

namespace Go.Proofs.YtdbhccehbjhbpaaGreatDoor
open Go.RowKit
open Disk (Dk Dict)
open Kv (It KOp Items)

theorem kmade_any (w : World) (sp q : Nat) (hq : w.cell? ⟨sp, 2, none⟩ = some (.pointer (some ⟨q, 0, none⟩))) :
    Calls Tryz.prog 32 #[.pointer (some ⟨sp, 0, none⟩)] w fun e w' => e = .returned (.bool true) ∧ w' = w := by
  go_enter Tryz.func32, Tryz.ntmps32
  go_wp2
  go_ret
  exact ⟨rfl, rfl⟩
/-! fields of an item -/
theorem it_gone (k v : ByteArray) (g : Bool) (n : Int) (w : World) : (Instr.field 41 (.agg #[.string k, .bool g, .string v, .int .i64 n]) 1).run Tryz.prog w = .ok (.bool g) w := by kernel_rfl
theorem it_at (k v : ByteArray) (g : Bool) (n : Int) (w : World) : (Instr.field 41 (.agg #[.string k, .bool g, .string v, .int .i64 n]) 3).run Tryz.prog w = .ok (.int .i64 n) w := by kernel_rfl
section
variable {w0 w : World} {B : List Res} {sp p : Nat} {s : Kv.St}
theorem kversion_held (h : Held w0 w (rKv sp p s :: B)) :
    Calls Tryz.prog 13 #[.pointer (some ⟨sp, 0, none⟩)] w fun e w' => e = .returned (.int .i64 s.version) ∧ w' = w := by
  obtain ⟨q, bm, h1⟩ := h.kopen
  obtain ⟨c0, c2, c3, c4, c5, f0⟩ := h1.blk0.kv
  have HM := hid (kmade_any w sp q c2)
  clear h h1
  go_enter Tryz.func13, Tryz.ntmps13
  go_wp2_with (first | (go_at_call 32; refine HM.out.mono ?_; rintro e w' ⟨rfl, rfl⟩))
  go_ret
  exact ⟨rfl, rfl⟩
theorem ksynced_held (h : Held w0 w (rKv sp p s :: B)) :
    Calls Tryz.prog 30 #[.pointer (some ⟨sp, 0, none⟩)] w fun e w' => e = .returned (.int .i64 s.synced) ∧ w' = w := by
  obtain ⟨q, bm, h1⟩ := h.kopen
  obtain ⟨c0, c2, c3, c4, c5, f0⟩ := h1.blk0.kv
  have HM := hid (kmade_any w sp q c2)
  clear h h1
  go_enter Tryz.func30, Tryz.ntmps30
  go_wp2_with (first | (go_at_call 32; refine HM.out.mono ?_; rintro e w' ⟨rfl, rfl⟩))
  go_ret
  exact ⟨rfl, rfl⟩
theorem kbytes_held (h : Held w0 w (rKv sp p s :: B)) :
    Calls Tryz.prog 24 #[.pointer (some ⟨sp, 0, none⟩)] w fun e w' => e = .returned (.int .i64 (bytesSum s.lg.segs)) ∧ Held w0 w' (rKv sp p s :: B) := by
  obtain ⟨q, bm, h1⟩ := h.kopen
  obtain ⟨c0, c2, c3, c4, c5, f0⟩ := h1.blk0.kv
  have HM := hid (kmade_any w sp q c2)
  have HB := hid (lbytes_held h1.pull2)
  clear h h1
  go_enter Tryz.func24, Tryz.ntmps24
  go_wp2_with (first
    | (go_at_call 32; refine HM.out.mono ?_; rintro e w' ⟨rfl, rfl⟩)
    | (go_at_call 56; refine HB.out.mono ?_; rintro e w' ⟨rfl, g⟩; have G := hid g; clear g))
  go_ret
  exact ⟨rfl, Held.kshut s G.out.push2⟩
theorem res_cell_tmp {P : Program} {fn : Func} {p t : Tmp} {ty : TypeId} (h : fn.results = #[.cell p ty, .tmp t]) (tmps : Array Value) (w : World) (g : Nat) (tt : TypeId) (cs : Array Value) (d : TypeDesc)
    (hp : tmps.getD p undef = .pointer (some ⟨g, 0, none⟩)) (hg : Blk w g tt cs)
    (hu : P.underlying ty = some d) (hd : (match d with | .struct _ | .array _ _ => true | _ => false) = true) (hi : (P.info? ty).map (·.size) = some cs.size) :
    (results fn tmps).run P w = .ok (.tuple #[.agg cs, tmps.getD t undef]) w := by
  have hp' : tmps[p]?.getD undef = .pointer (some ⟨g, 0, none⟩) := by simpa using hp
  simp [results, h, hp', asAddr, run_loadVar_row w g tt ty cs (0, 0) d hg hu hd hi]
/-- what Get hands back. -/
def getV (k : List UInt8) : Option It → Value
  | none => .tuple #[zeroItem, .bool false]
  | some x => .tuple #[itemV k x, .bool true]
set_option maxRecDepth 100000 in
theorem kget_held (h : Held w0 w (rKv sp p s :: B)) (hs : Kv.ItemsOk s.items s.version) {k : List UInt8} (hk : k.length ≤ 9223372036854775807) :
    Calls Tryz.prog 19 #[.pointer (some ⟨sp, 0, none⟩), sv k] w fun e w' => e = .returned (getV k (Kv.get s.items k)) ∧ Held w0 w' (rKv sp p s :: B) := by
  obtain ⟨q, bm, h1⟩ := h.kopen
  obtain ⟨c0, c2, c3, c4, c5, f0⟩ := h1.blk0.kv
  have h2 := h1.block 41 #[.string ⟨#[]⟩, .bool false, .string ⟨#[]⟩, .int .i64 0]
  have hl := Held.items_lookup (A := [_, _]) h2 hk
  have HH := hid h2
  have H1 := hid h1
  have HM := hid (fun (w' : World) (e : w'.cell? ⟨sp, 2, none⟩ = some (.pointer (some ⟨q, 0, none⟩))) => kmade_any w' sp q e)
  have HS := hid hs
  have f3 := it_at
  have f1 := it_gone
  have e2 := h2.pull1.blk0.kv.c2
  have e3 := h2.pull1.blk0.kv.c3
  clear h h1 h2 hs c4 c5 f0 c0 c2 c3
  cases hg : Dict.get s.items k with
  | none =>
    rw [hg] at hl
    unfold lookV zeroItem sv at hl
    unfold sv
    go_enter Tryz.func19, Tryz.ntmps19
    go_wp2_with (first | (go_at_call 32; refine (HM.out _ e2).mono ?_; rintro e w' ⟨rfl, rfl⟩))
    have HB := HH.out.blk0
    refine bodyPost_ret (res_cell_tmp rfl _ _ w.heap.size 41 _ _ rfl HB Tryz.underlying41 rfl (by kernel_rfl)) rfl ?_
    refine ⟨?_, Held.kshut s HH.out.drop0⟩
    unfold Kv.get
    rw [hg]
    rfl
  | some x =>
    rw [hg] at hl
    unfold lookV itemV sv at hl
    dsimp only at hl
    have h1at := (HS.out.each k x hg).2.2.2.1
    have hb0 : ((x.at_ : Int) == 0) = false := by rw [beq_eq_false_iff_ne]; omega
    by_cases hgo : x.gone = true
    · rw [hgo] at hl
      unfold sv
      go_enter Tryz.func19, Tryz.ntmps19
      go_wp2_with (first | (go_at_call 32; refine (HM.out _ e2).mono ?_; rintro e w' ⟨rfl, rfl⟩))
      all_goals first | (exfalso; omega) | skip
      have HB := HH.out.blk0
      refine bodyPost_ret (res_cell_tmp rfl _ _ w.heap.size 41 _ _ rfl HB Tryz.underlying41 rfl (by kernel_rfl)) rfl ?_
      refine ⟨?_, Held.kshut s HH.out.drop0⟩
      unfold Kv.get
      rw [hg]
      simp only [hgo, if_true]
      rfl
    · have hgo2 : x.gone = false := by simpa using hgo
      rw [hgo2] at hl
      unfold sv
      go_enter Tryz.func19, Tryz.ntmps19
      go_wp2_with (first | (go_at_call 32; refine (HM.out _ e2).mono ?_; rintro e w' ⟨rfl, rfl⟩))
      all_goals first | (exfalso; omega) | skip
      have g2 := H1.out.block 41 #[.string ⟨k.toArray⟩, .bool false, .string ⟨x.value.toArray⟩, .int .i64 x.at_]
      refine bodyPost_ret (res_cell_tmp rfl _ _ w.heap.size 41 _ _ rfl g2.blk0 Tryz.underlying41 rfl (by kernel_rfl)) rfl ?_
      refine ⟨?_, Held.kshut s g2.drop0⟩
      unfold Kv.get
      rw [hg]
      simp only [hgo2, Bool.false_eq_true, if_false]
      unfold getV itemV sv
      simp only [hgo2]
      rfl
end
end Go.Proofs.YtdbhccehbjhbpaaGreatDoor
