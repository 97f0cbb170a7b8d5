/- disk: files.does whole; made, look over a held disk. -/
import Derived.Test.YtkednbkildkkmaaD5
namespace Go.Proofs.Ytkednbkildkkmaa
open Go.RowKit
open Disk

def deedV (a : Deed) (bA : Option Addr) (bc : Nat) : Value := .agg #[.int .i64 a.kind, sv a.name, .int .i64 a.at_, .slice bA a.b.length bc]

theorem fdoes_held {w0 w : World} {A B : List Res} {bm : Nat} {f : Files} (h : Held w0 w (A ++ rFiles bm f :: B)) (a : Deed) (bA : Option Addr) (bc : Nat) (hb : Src w0 A B (.slice bA a.b.length bc) (bytesV a.b))
    (hn : a.name.length ≤ 9223372036854775807) (hk : a.kind ≤ 2) (hsz : a.at_ + a.b.length ≤ 1073741824) (hfs : ∀ x, Dict.get f a.name = some x → x.length ≤ 1073741824) :
    Calls Try.prog 40 #[.map (some bm), deedV a bA bc] w fun e w' => e = .returned (.tuple #[]) ∧ Held w0 w' (A ++ rFiles bm (Files.does f a) :: B) := by
  obtain ⟨kind, name, at_, b⟩ := a
  simp only at *
  have hc : kind = 0 ∨ kind = 1 ∨ kind = 2 := by omega
  rcases hc with rfl | rfl | rfl
  · exact fdoes_write h name at_ b bA bc hb hn hsz hfs
  · exact fdoes_cut h name at_ (.slice bA b.length bc) hn (by omega)
  · exact fdoes_drop h name at_ (.slice bA b.length bc) hn

/-! ### a disk that is held -/
section
variable {w0 w : World} {A B : List Res} {p : Nat} {d : Dk}
theorem Held.disk_open (h : Held w0 w (A ++ rDisk p d :: B)) : ∃ i, Held w0 w (A ++ (diskRes p d i ++ B)) := by
  obtain ⟨i, _, h⟩ := h.open_some
  exact ⟨i, h⟩
theorem Held.disk_close (i : DiskIn) (h : Held w0 w (A ++ (diskRes p d i ++ B))) : Held w0 w (A ++ rDisk p d :: B) := Held.close_some i trivial h
theorem Held.disk_blk {i : DiskIn} (h : Held w0 w (A ++ (diskRes p d i ++ B))) : Blk w p 52 (diskCells d i) := Held.blk (l2 := [rFiles i.bs d.seen, rFiles i.bl d.lasting, rActs i.vp d.pending, rHeld i.bh d.held] ++ B) (by simpa [diskRes] using h)
end

theorem neqFilesNil (w : World) (r : Option Nat) : (binOp .neq 48 (.map r) (.map none)).run Try.prog w = .ok (.bool r.isSome) w := by
  rw [run_neq_map_nil (P := Try.prog) w 48 9 67 r Try.underlying48]
  cases r <;> rfl

theorem dmade_nil (w : World) : Calls Try.prog 39 #[.pointer none] w fun e w' => e = .returned (.bool false) ∧ w = w' := by
  go_enter Try.func39, Try.ntmps39
  go_wp2
  go_ret
  exact ⟨rfl, rfl⟩
theorem dmade_any (w : World) (b : Nat) (m : Option Nat) (h : w.cell? ⟨b, 1, none⟩ = some (.map m)) : Calls Try.prog 39 #[.pointer (some ⟨b, 0, none⟩)] w fun e w' => e = .returned (.bool m.isSome) ∧ w = w' := by
  have e1 := neqFilesNil
  go_enter Try.func39, Try.ntmps39
  go_wp2
  go_ret
  exact ⟨rfl, rfl⟩

set_option maxRecDepth 100000 in
theorem dlook_none (w : World) (p bs : Nat) (name : Bytes) (hn : name.length ≤ 9223372036854775807) (hc : w.cell? ⟨p, 1, none⟩ = some (.map (some bs)))
    (hlk : ∀ w', Mod (fun _ => False) w w' → (Instr.lookup 48 (.map (some bs)) (sv name) false).run Try.prog w' = .ok (.pointer none) w') :
    Calls Try.prog 32 #[.pointer (some ⟨p, 0, none⟩), sv name] w fun e w' => e = .returned (.tuple #[.pointer none, .int .i64 (if may name = false then 6 else 20)]) ∧ Mod (fun _ => False) w w' := by
  have HM := hid (dmade_any w p (some bs) hc)
  have HY := hid (may_any w name hn)
  have HL := hid hlk
  clear hlk
  go_enter Try.func32, Try.ntmps32
  go_wp2_with (first
    | (go_at_call 39; refine HM.out.mono ?_; rintro e w' ⟨rfl, rfl⟩))
  refine HY.out.mono ?_
  rintro e w1 ⟨rfl, hm⟩
  have hc1 := hm.cell hc (fun h => h)
  have hl1 := HL.out w1 hm
  have HO := hid hm
  clear hm
  cases hmay : may name with
  | false =>
    go_wp2_with fail
    all_goals
      go_ret2
      exact ⟨rfl, HO.out⟩
  | true =>
    go_wp2_with fail
    all_goals
      go_ret2
      exact ⟨rfl, HO.out⟩

set_option maxRecDepth 100000 in
theorem dlook_some (w : World) (p bs b : Nat) (name : Bytes) (hn : name.length ≤ 9223372036854775807) (hc : w.cell? ⟨p, 1, none⟩ = some (.map (some bs)))
    (hlk : ∀ w', Mod (fun _ => False) w w' → (Instr.lookup 48 (.map (some bs)) (sv name) false).run Try.prog w' = .ok (.pointer (some ⟨b, 0, none⟩)) w') :
    Calls Try.prog 32 #[.pointer (some ⟨p, 0, none⟩), sv name] w fun e w' => e = .returned (if may name = false then .tuple #[.pointer none, .int .i64 6] else .tuple #[.pointer (some ⟨b, 0, none⟩), .int .i64 0]) ∧ Mod (fun _ => False) w w' := by
  have HM := hid (dmade_any w p (some bs) hc)
  have HY := hid (may_any w name hn)
  have HL := hid hlk
  clear hlk
  go_enter Try.func32, Try.ntmps32
  go_wp2_with (first
    | (go_at_call 39; refine HM.out.mono ?_; rintro e w' ⟨rfl, rfl⟩))
  refine HY.out.mono ?_
  rintro e w1 ⟨rfl, hm⟩
  have hc1 := hm.cell hc (fun h => h)
  have hl1 := HL.out w1 hm
  have HO := hid hm
  clear hm
  cases hmay : may name with
  | false =>
    go_wp2_with fail
    all_goals
      go_ret2
      exact ⟨rfl, HO.out⟩
  | true =>
    go_wp2_with fail
    all_goals
      go_ret2
      exact ⟨rfl, HO.out⟩
end Go.Proofs.Ytkednbkildkkmaa
