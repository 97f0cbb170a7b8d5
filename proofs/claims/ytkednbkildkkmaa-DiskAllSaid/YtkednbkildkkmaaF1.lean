/- disk: look, Used, Pending, Room over a held disk. -/
import Derived.Test.YtkednbkildkkmaaF0
import Derived.Test.YtkednbkildkkmaaD8
import Derived.BigQuiet
namespace Go.Proofs.Ytkednbkildkkmaa
open Go.RowKit
open Disk

/-- what a look finds. -/
def LookPost (w0 : World) (B : List Res) (p : Nat) (d : Dk) (name : Bytes) (e : Ending) (w' : World) : Prop :=
  Held w0 w' (rDisk p d :: B) ∧
  (match Dict.get d.seen name with
  | none => e = .returned (.tuple #[.pointer none, .int .i64 (if may name = false then 6 else 20)])
  | some x => if may name = false then e = .returned (.tuple #[.pointer none, .int .i64 6]) else
    ∃ b s, e = .returned (.tuple #[.pointer (some ⟨b, 0, none⟩), .int .i64 0]) ∧ w'.cell? ⟨b, 0, none⟩ = some s ∧ Rd (fun _ => True) w' s (bytesV x))

theorem look_held {w0 w : World} {B : List Res} {p : Nat} {d : Dk} (h : Held w0 w (rDisk p d :: B)) (name : Bytes) (hn : name.length ≤ 9223372036854775807) :
    Calls Try.prog 32 #[.pointer (some ⟨p, 0, none⟩), sv name] w (LookPost w0 B p d name) := by
  obtain ⟨i, hb, hs⟩ := h.seen_at
  have hs := hs name hn
  unfold LookPost
  cases hg : Dict.get d.seen name with
  | none =>
    rw [hg] at hs
    exact (dlook_none w p i.bs name hn hb.disk.c1 hs).mono fun e w' ⟨he, hm⟩ => ⟨h.step hm, he⟩
  | some x =>
    rw [hg] at hs
    obtain ⟨b, s, hl, hbb, hr⟩ := hs
    refine (dlook_some w p i.bs b name hn hb.disk.c1 hl).mono fun e w' ⟨he, hm⟩ => ⟨h.step hm, ?_⟩
    simp only
    split
    · rename_i hmay
      rw [he, if_pos hmay]
    · rename_i hmay
      rw [if_neg hmay] at he
      exact ⟨b, s, he, hm.cell (hbb.cell rfl) (fun h => h), hr.mod hm (fun _ _ h => h)⟩

/-! ### Used -/
def sumV (l : List (Value × Value)) : Int := (l.map fun p => intOf p.2).sum
theorem sumV_perm {l m : List (Value × Value)} (h : l.Perm m) : sumV l = sumV m := by
  unfold sumV
  induction h with
  | nil => rfl
  | cons _ _ ih => simp [ih]
  | swap _ _ _ => simp; omega
  | trans _ _ ih1 ih2 => exact ih1.trans ih2
theorem sumV_held (h : Dict Nat) : sumV (heldL h) = (used h : Nat) := by
  induction h with
  | nil => rfl
  | cons p h ih =>
    rw [used_cons]
    have e : sumV (heldL (p :: h)) = p.2 + sumV (heldL h) := by simp [sumV, heldL, intOf]
    rw [e, ih]
    simp
def UsedAt (w0 : World) (B : List Res) (it bm : Nat) (h : Dict Nat) (m : Int) (w : World) (n : Nat) : Prop :=
  ∃ todo, todo.length = n ∧ (∀ p ∈ todo, p ∈ heldL h) ∧ 0 ≤ m ∧ m + sumV todo = (used h : Nat) ∧ Held w0 w (rIter Try.prog 9 it bm (heldL h) todo :: B)
theorem sumV_nonneg {h : Dict Nat} : ∀ {todo : List (Value × Value)}, (∀ p ∈ todo, p ∈ heldL h) → 0 ≤ sumV todo
  | [], _ => Int.le_refl _
  | p :: l, hl => by
    obtain ⟨x, _, rfl⟩ := List.mem_map.1 (hl p (by simp))
    have := sumV_nonneg (todo := l) fun q hq => hl q (by simp [hq])
    have e : sumV ((sv x.1, Value.int .i64 x.2) :: l) = x.2 + sumV l := by simp [sumV, intOf]
    rw [e]
    omega

set_option maxRecDepth 100000 in
set_option maxHeartbeats 2000000 in
theorem used_held {w0 w : World} {B : List Res} {p : Nat} {d : Dk} (h : Held w0 w (rDisk p d :: B)) (hu : used d.held ≤ 1000000000000) :
    Calls Try.prog 25 #[.pointer (some ⟨p, 0, none⟩)] w fun e w' => e = .returned (.int .i64 (used d.held : Nat)) ∧ Held w0 w' (rDisk p d :: B) := by
  obtain ⟨i, h1⟩ := h.dopen
  obtain ⟨c0, c1, c2, c3, c4⟩ := h1.blk0.disk
  have HM := hid (dmade_any w p (some i.bs) c1)
  have HR := hid (Held.range (A := []) Try.underlying50 h1.pull4)
  clear h h1 c0 c1 c2 c3
  go_enter Try.func25, Try.ntmps25
  go_wp2_with (first
    | (go_at_call 39; refine HM.out.mono ?_; rintro e w' ⟨rfl, rfl⟩)
    | (at_range; refine wpList_range_ex _ rfl _ 50 rfl (.map (some i.bh)) rfl _ _ HR.out ?c1))
  case c1 =>
    intro w1 hP
    have HB := hid (show UsedAt w0 _ w.heap.size i.bh d.held 0 w1 _ from ⟨heldL d.held, rfl, fun _ h => h, Int.le_refl _, by rw [sumV_held]; simp, hP⟩)
    clear hP HR
    generalize w.heap.size = it at *
    go_wp2_with fail
    go_loopw [3] (fun z wr => ∃ m : Int, z = .int .i64 m ∧ ∃ n, UsedAt w0 (rBlk p 52 (diskCells d i) :: rFiles i.bs d.seen :: rFiles i.bl d.lasting :: rActs i.vp d.pending :: B) it i.bh d.held m wr n) (fun _ wr => wr.rangeLeft i.bh it)
    case atStart => exact ⟨0, rfl, _, HB.out⟩
    case round =>
      obtain ⟨m, rfl, n, todo, hn, hsub, h0, hsum, hh⟩ := hrel
      have HN := hid hh.next0
      have HI := hid (And.intro hsub (And.intro hsum hh))
      have hle : m ≤ 1000000000000 := by have := sumV_nonneg hsub; omega
      clear hsub hsum hh hn
      go_wp2_with (at_next; refine wpList_next_ex _ rfl _ rfl _ rfl _ _ HN.out ?c0 ?c1)
      case c0 =>
        rintro rfl
        go_wp2_with fail
        go_ret
        obtain ⟨hsub, hsum, hh⟩ := HI.out
        have hm : m = (used d.held : Nat) := by simpa [sumV] using hsum
        rw [hm]
        exact ⟨rfl, Held.dshut i (Held.push4 (Held.range_end (A := []) hh))⟩
      case c1 =>
        intro k v w2 hP
        obtain ⟨todo', hpm, hmem, hen, h2⟩ := hP
        obtain ⟨hsub, hsum, hh⟩ := HI.out
        obtain ⟨x, -, hx⟩ := List.mem_map.1 hmem
        injection hx with hx1 hx2
        subst hx1 hx2
        have hs' : ∀ q ∈ todo', q ∈ heldL d.held := fun q hq => hsub q (hpm.mem_iff.2 (by simp [hq]))
        have hsm : m + (x.2 : Int) + sumV todo' = (used d.held : Nat) := by
          rw [sumV_perm hpm] at hsum
          have e : sumV ((sv x.1, Value.int .i64 x.2) :: todo') = x.2 + sumV todo' := by simp [sumV, intOf]
          rw [e] at hsum
          omega
        have hnn := sumV_nonneg hs'
        have l1 := (Held.iterAt (A := []) hh).left
        have l2 := (Held.iterAt (A := []) h2).left
        have HJ := hid (show UsedAt w0 _ it i.bh d.held (m + (x.2 : Int)) w2 _ from ⟨todo', rfl, hs', by omega, hsm, h2⟩)
        have HL := hid (show w2.rangeLeft i.bh it < wr.rangeLeft i.bh it by rw [l1, l2, hpm.length_eq]; simp)
        have hb1 : m + (x.2 : Int) ≤ 1000000000000 := by omega
        have hb0 : (0 : Int) ≤ m + (x.2 : Int) := by omega
        clear hsub hsum hh hpm hmem h2 hs' hsm hnn l1 l2 HI HN
        go_wp2_with fail
        exact ⟨⟨_, rfl, _, HJ.out⟩, HL.out⟩

set_option maxRecDepth 100000 in
theorem pending_held {w0 w : World} {B : List Res} {p : Nat} {d : Dk} (h : Held w0 w (rDisk p d :: B)) :
    Calls Try.prog 24 #[.pointer (some ⟨p, 0, none⟩)] w fun e w' => e = .returned (.int .i64 (d.pending.length : Nat)) ∧ w = w' := by
  obtain ⟨i, h1⟩ := h.dopen
  obtain ⟨c0, c1, c2, c3, c4⟩ := h1.blk0.disk
  have HM := hid (dmade_any w p (some i.bs) c1)
  obtain ⟨bvs, hbl, h2⟩ := Held.open_some (l1 := [_, _, _]) h1
  obtain ⟨A, c, hv, q1, q2⟩ := Held.rows_form (l1 := [_, _, _]) h2
  have hrl : (List.zipWith actRow d.pending bvs).length = d.pending.length := by simp [hbl]
  rw [hrl] at hv q1
  rw [hv] at c3
  clear h h1 h2 hv hrl hbl c0 c1 c2 c4
  go_enter Try.func24, Try.ntmps24
  go_wp2_with (first
    | (go_at_call 39; refine HM.out.mono ?_; rintro e w' ⟨rfl, rfl⟩))
  go_ret
  exact ⟨rfl, rfl⟩

set_option maxRecDepth 100000 in
theorem room_held {w0 w : World} {B : List Res} {p : Nat} {d : Dk} (h : Held w0 w (rDisk p d :: B)) :
    Calls Try.prog 26 #[.pointer (some ⟨p, 0, none⟩)] w fun e w' => e = .returned (.int .i64 (d.room : Nat)) ∧ w = w' := by
  obtain ⟨i, h1⟩ := h.dopen
  obtain ⟨c0, c1, c2, c3, c4⟩ := h1.blk0.disk
  have HM := hid (dmade_any w p (some i.bs) c1)
  clear h h1 c1 c2 c3 c4
  go_enter Try.func26, Try.ntmps26
  go_wp2_with (first
    | (go_at_call 39; refine HM.out.mono ?_; rintro e w' ⟨rfl, rfl⟩))
  go_ret
  exact ⟨rfl, rfl⟩
end Go.Proofs.Ytkednbkildkkmaa
