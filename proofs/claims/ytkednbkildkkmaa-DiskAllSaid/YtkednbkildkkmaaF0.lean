/- Held things, one brought to the front; a disk laid open at the front. -/
import Derived.Test.YtkednbkildkkmaaD7
import Derived.Test.YtkednbkildkkmaaB10
import Derived.Test.YtkednbkildkkmaaD71
import Derived.Test.YtkednbkildkkmaaP3
import Derived.Deep.AppendLies
namespace Go.Proofs.Ytkednbkildkkmaa
open Go.RowKit
open Disk

section
variable {w0 w w' : World} {B : List Res}
theorem Held.pull1 {x0 x1 : Res} (h : Held w0 w (x0 :: x1 :: B)) : Held w0 w (x1 :: x0 :: B) := h.perm (List.perm_middle (l₁ := [x0]))
theorem Held.push1 {x0 x1 : Res} (h : Held w0 w (x1 :: x0 :: B)) : Held w0 w (x0 :: x1 :: B) := h.perm (List.perm_middle (l₁ := [x0])).symm
theorem Held.pull2 {x0 x1 x2 : Res} (h : Held w0 w (x0 :: x1 :: x2 :: B)) : Held w0 w (x2 :: x0 :: x1 :: B) := h.perm (List.perm_middle (l₁ := [x0, x1]))
theorem Held.push2 {x0 x1 x2 : Res} (h : Held w0 w (x2 :: x0 :: x1 :: B)) : Held w0 w (x0 :: x1 :: x2 :: B) := h.perm (List.perm_middle (l₁ := [x0, x1])).symm
theorem Held.pull3 {x0 x1 x2 x3 : Res} (h : Held w0 w (x0 :: x1 :: x2 :: x3 :: B)) : Held w0 w (x3 :: x0 :: x1 :: x2 :: B) := h.perm (List.perm_middle (l₁ := [x0, x1, x2]))
theorem Held.push3 {x0 x1 x2 x3 : Res} (h : Held w0 w (x3 :: x0 :: x1 :: x2 :: B)) : Held w0 w (x0 :: x1 :: x2 :: x3 :: B) := h.perm (List.perm_middle (l₁ := [x0, x1, x2])).symm
theorem Held.pull4 {x0 x1 x2 x3 x4 : Res} (h : Held w0 w (x0 :: x1 :: x2 :: x3 :: x4 :: B)) : Held w0 w (x4 :: x0 :: x1 :: x2 :: x3 :: B) := h.perm (List.perm_middle (l₁ := [x0, x1, x2, x3]))
theorem Held.push4 {x0 x1 x2 x3 x4 : Res} (h : Held w0 w (x4 :: x0 :: x1 :: x2 :: x3 :: B)) : Held w0 w (x0 :: x1 :: x2 :: x3 :: x4 :: B) := h.perm (List.perm_middle (l₁ := [x0, x1, x2, x3])).symm
theorem Held.pull5 {x0 x1 x2 x3 x4 x5 : Res} (h : Held w0 w (x0 :: x1 :: x2 :: x3 :: x4 :: x5 :: B)) : Held w0 w (x5 :: x0 :: x1 :: x2 :: x3 :: x4 :: B) := h.perm (List.perm_middle (l₁ := [x0, x1, x2, x3, x4]))
theorem Held.push5 {x0 x1 x2 x3 x4 x5 : Res} (h : Held w0 w (x5 :: x0 :: x1 :: x2 :: x3 :: x4 :: B)) : Held w0 w (x0 :: x1 :: x2 :: x3 :: x4 :: x5 :: B) := h.perm (List.perm_middle (l₁ := [x0, x1, x2, x3, x4])).symm
theorem Held.pull6 {x0 x1 x2 x3 x4 x5 x6 : Res} (h : Held w0 w (x0 :: x1 :: x2 :: x3 :: x4 :: x5 :: x6 :: B)) : Held w0 w (x6 :: x0 :: x1 :: x2 :: x3 :: x4 :: x5 :: B) := h.perm (List.perm_middle (l₁ := [x0, x1, x2, x3, x4, x5]))
theorem Held.push6 {x0 x1 x2 x3 x4 x5 x6 : Res} (h : Held w0 w (x6 :: x0 :: x1 :: x2 :: x3 :: x4 :: x5 :: B)) : Held w0 w (x0 :: x1 :: x2 :: x3 :: x4 :: x5 :: x6 :: B) := h.perm (List.perm_middle (l₁ := [x0, x1, x2, x3, x4, x5])).symm
theorem Held.pull7 {x0 x1 x2 x3 x4 x5 x6 x7 : Res} (h : Held w0 w (x0 :: x1 :: x2 :: x3 :: x4 :: x5 :: x6 :: x7 :: B)) : Held w0 w (x7 :: x0 :: x1 :: x2 :: x3 :: x4 :: x5 :: x6 :: B) := h.perm (List.perm_middle (l₁ := [x0, x1, x2, x3, x4, x5, x6]))
theorem Held.push7 {x0 x1 x2 x3 x4 x5 x6 x7 : Res} (h : Held w0 w (x7 :: x0 :: x1 :: x2 :: x3 :: x4 :: x5 :: x6 :: B)) : Held w0 w (x0 :: x1 :: x2 :: x3 :: x4 :: x5 :: x6 :: x7 :: B) := h.perm (List.perm_middle (l₁ := [x0, x1, x2, x3, x4, x5, x6])).symm
theorem Held.pull8 {x0 x1 x2 x3 x4 x5 x6 x7 x8 : Res} (h : Held w0 w (x0 :: x1 :: x2 :: x3 :: x4 :: x5 :: x6 :: x7 :: x8 :: B)) : Held w0 w (x8 :: x0 :: x1 :: x2 :: x3 :: x4 :: x5 :: x6 :: x7 :: B) := h.perm (List.perm_middle (l₁ := [x0, x1, x2, x3, x4, x5, x6, x7]))
theorem Held.push8 {x0 x1 x2 x3 x4 x5 x6 x7 x8 : Res} (h : Held w0 w (x8 :: x0 :: x1 :: x2 :: x3 :: x4 :: x5 :: x6 :: x7 :: B)) : Held w0 w (x0 :: x1 :: x2 :: x3 :: x4 :: x5 :: x6 :: x7 :: x8 :: B) := h.perm (List.perm_middle (l₁ := [x0, x1, x2, x3, x4, x5, x6, x7])).symm
theorem Held.pull9 {x0 x1 x2 x3 x4 x5 x6 x7 x8 x9 : Res} (h : Held w0 w (x0 :: x1 :: x2 :: x3 :: x4 :: x5 :: x6 :: x7 :: x8 :: x9 :: B)) : Held w0 w (x9 :: x0 :: x1 :: x2 :: x3 :: x4 :: x5 :: x6 :: x7 :: x8 :: B) := h.perm (List.perm_middle (l₁ := [x0, x1, x2, x3, x4, x5, x6, x7, x8]))
theorem Held.push9 {x0 x1 x2 x3 x4 x5 x6 x7 x8 x9 : Res} (h : Held w0 w (x9 :: x0 :: x1 :: x2 :: x3 :: x4 :: x5 :: x6 :: x7 :: x8 :: B)) : Held w0 w (x0 :: x1 :: x2 :: x3 :: x4 :: x5 :: x6 :: x7 :: x8 :: x9 :: B) := h.perm (List.perm_middle (l₁ := [x0, x1, x2, x3, x4, x5, x6, x7, x8])).symm
theorem Held.pull10 {x0 x1 x2 x3 x4 x5 x6 x7 x8 x9 x10 : Res} (h : Held w0 w (x0 :: x1 :: x2 :: x3 :: x4 :: x5 :: x6 :: x7 :: x8 :: x9 :: x10 :: B)) : Held w0 w (x10 :: x0 :: x1 :: x2 :: x3 :: x4 :: x5 :: x6 :: x7 :: x8 :: x9 :: B) := h.perm (List.perm_middle (l₁ := [x0, x1, x2, x3, x4, x5, x6, x7, x8, x9]))
theorem Held.push10 {x0 x1 x2 x3 x4 x5 x6 x7 x8 x9 x10 : Res} (h : Held w0 w (x10 :: x0 :: x1 :: x2 :: x3 :: x4 :: x5 :: x6 :: x7 :: x8 :: x9 :: B)) : Held w0 w (x0 :: x1 :: x2 :: x3 :: x4 :: x5 :: x6 :: x7 :: x8 :: x9 :: x10 :: B) := h.perm (List.perm_middle (l₁ := [x0, x1, x2, x3, x4, x5, x6, x7, x8, x9])).symm

theorem Held.drop0 {x0 : Res} (h : Held w0 w (x0 :: B)) : Held w0 w B := Held.drop (l1 := []) h
theorem Held.drew (h : Held w0 w B) : Held w0 w.drew B := h.step ((Mod.refl _ _).drew)
theorem Held.blk0 {b : Nat} {t : TypeId} {cs : Array Value} (h : Held w0 w (rBlk b t cs :: B)) : Blk w b t cs := Held.blk (l1 := []) h

theorem Held.next0 {it bm : Nat} {L todo : List (Value × Value)} (h : Held w0 w (rIter Try.prog 9 it bm L todo :: B)) : ∀ ty,
    (todo = [] ∧ (Instr.next (.pointer (some ⟨it, 0, none⟩)) false ty).run Try.prog w = .ok (.tuple #[.bool false]) w) ∨ ∃ k v w', (Instr.next (.pointer (some ⟨it, 0, none⟩)) false ty).run Try.prog w = .ok (.tuple #[.bool true, k, v]) w' ∧ NextPost w0 [] B it bm L todo k v w' :=
  fun ty => Held.next (A := []) h ty

/-! ### a disk -/
variable {p : Nat} {d : Dk}
theorem Held.dopen (h : Held w0 w (rDisk p d :: B)) : ∃ i, Held w0 w (rBlk p 52 (diskCells d i) :: rFiles i.bs d.seen :: rFiles i.bl d.lasting :: rActs i.vp d.pending :: rHeld i.bh d.held :: B) := Held.disk_open (A := []) h
theorem Held.dshut (i : DiskIn) (h : Held w0 w (rBlk p 52 (diskCells d i) :: rFiles i.bs d.seen :: rFiles i.bl d.lasting :: rActs i.vp d.pending :: rHeld i.bh d.held :: B)) : Held w0 w (rDisk p d :: B) := Held.disk_close (A := []) i h
/-- the disk's cells and its seen files' map, as they are read. -/
structure DiskSeen (p : Nat) (d : Dk) (w : World) (i : DiskIn) : Prop where
  c0 : w.cell? ⟨p, 0, none⟩ = some (.int .i64 d.room)
  c1 : w.cell? ⟨p, 1, none⟩ = some (.map (some i.bs))
  c2 : w.cell? ⟨p, 2, none⟩ = some (.map (some i.bl))
  c3 : w.cell? ⟨p, 3, none⟩ = some i.vp
  c4 : w.cell? ⟨p, 4, none⟩ = some (.map (some i.bh))
theorem Blk.disk {i : DiskIn} (h : Blk w p 52 (diskCells d i)) : DiskSeen p d w i := ⟨h.cell rfl, h.cell rfl, h.cell rfl, h.cell rfl, h.cell rfl⟩
/-- look-up in what is seen. -/
theorem Held.seen_at (h : Held w0 w (rDisk p d :: B)) : ∃ i, Blk w p 52 (diskCells d i) ∧ ∀ (name : Bytes), name.length ≤ 9223372036854775807 →
    (match Dict.get d.seen name with
    | none => ∀ w', Mod (fun _ => False) w w' → (Instr.lookup 48 (.map (some i.bs)) (sv name) false).run Try.prog w' = .ok (.pointer none) w'
    | some x => ∃ b s, (∀ w', Mod (fun _ => False) w w' → (Instr.lookup 48 (.map (some i.bs)) (sv name) false).run Try.prog w' = .ok (.pointer (some ⟨b, 0, none⟩)) w') ∧ Blk w b 77 #[s] ∧ Rd (fun _ => True) w s (bytesV x)) := by
  obtain ⟨i, h1⟩ := h.dopen
  refine ⟨i, h1.blk0, fun name hn => ?_⟩
  obtain ⟨ys, hp, h2⟩ := Held.files_open (A := []) h1.pull1
  cases hg : Dict.get d.seen name with
  | none =>
    simp only
    intro w' hm
    exact (Held.files_none (A := []) (h2.step hm) hp hn hg).1 false
  | some x =>
    simp only
    obtain ⟨ys1, ys2, b, s, hys, hlk, h3⟩ := Held.files_some (A := []) h2 hp hn hg
    refine ⟨b, s, fun w' hm => ?_, Held.blk (l1 := [_, _]) h3, Held.bytes (l1 := [_, _, _]) h3⟩
    obtain ⟨ys1', ys2', b', s', hys', hlk', -⟩ := Held.files_some (A := []) (h2.step hm) hp hn hg
    have he : b' = b := by
      rw [hys] at hys'
      have h1 : ((name, x), Value.pointer (some ⟨b, 0, none⟩)) ∈ ys := by rw [hys]; simp
      have h2' : ((name, x), Value.pointer (some ⟨b', 0, none⟩)) ∈ ys := by rw [hys, hys']; simp
      have hnd := h2.mapAt.nodup
      have m1 : (sv name, Value.pointer (some ⟨b, 0, none⟩)) ∈ filesL ys := List.mem_map.2 ⟨_, h1, rfl⟩
      have m2 : (sv name, Value.pointer (some ⟨b', 0, none⟩)) ∈ filesL ys := List.mem_map.2 ⟨_, h2', rfl⟩
      have := uniq_val hnd m1 m2
      injection this with this
      injection this with this
      injection this with this
      exact this.symm
    have := hlk' false
    simp only [Bool.false_eq_true, if_false, he] at this
    exact this
end
end Go.Proofs.Ytkednbkildkkmaa
