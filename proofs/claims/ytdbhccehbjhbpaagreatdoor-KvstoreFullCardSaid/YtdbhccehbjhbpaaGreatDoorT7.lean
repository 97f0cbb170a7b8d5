/- wire: a cursor over a payload. -/
import Derived.Test.YtdbhccehbjhbpaaGreatDoorT6
namespace Go.Proofs.YtdbhccehbjhbpaaGreatDoor
open Go.RowKit

def curRes (q : Nat) (b : List UInt8) (at_ : Nat) (i : Nat × Value) : List Res := [rBlk q 223 #[.pointer (some ⟨i.1, 0, none⟩)], rBlk i.1 221 #[i.2, .int .i64 at_], rBytes i.2 b]
def rCur (q : Nat) (b : List UInt8) (at_ : Nat) : Res := rSome (fun _ : Nat × Value => True) (curRes q b at_)

section
variable {w0 w : World} {B : List Res} {q at_ : Nat} {b : List UInt8}
theorem Held.cur_open (h : Held w0 w (rCur q b at_ :: B)) : ∃ p v, Held w0 w (rBlk q 223 #[.pointer (some ⟨p, 0, none⟩)] :: rBlk p 221 #[v, .int .i64 at_] :: rBytes v b :: B) := by
  obtain ⟨⟨p, v⟩, -, h1⟩ := Held.open_some (l1 := []) h
  exact ⟨p, v, by simpa [curRes] using h1⟩
theorem Held.cur_shut {p : Nat} {v : Value} (h : Held w0 w (rBlk q 223 #[.pointer (some ⟨p, 0, none⟩)] :: rBlk p 221 #[v, .int .i64 at_] :: rBytes v b :: B)) : Held w0 w (rCur q b at_ :: B) :=
  Held.close_some (l1 := []) (q := fun _ : Nat × Value => True) (Rs' := curRes q b at_) (p, v) trivial (by simpa [curRes] using h)
end

set_option maxRecDepth 100000 in
theorem cfrom_held {w0 w : World} {B : List Res} (h : Held w0 w B) (S : Nat → Prop) (v : Value) (b : List UInt8) (hv : Rd S w v (bytesV b)) (hl : b.length ≤ 70368744177664) :
    Calls Tryz.prog 105 #[v] w fun e w' => ∃ q, e = .returned (.pointer (some ⟨q, 0, none⟩)) ∧ Held w0 w' (rCur q b 0 :: B) := by
  obtain ⟨i0, hi, hz0, hz1, hz2⟩ := info_parts Tryz.info5
  have HI := hid (And.intro hi (And.intro hz0 (And.intro hz1 hz2)))
  have HV := hid hv
  have HH := hid h
  clear hi hz0 hz1 hz2 hv h
  go_enter Tryz.func105, Tryz.ntmps105
  go_wp2_with (at_builtin; first
    | (refine wpList_append_rd _ rfl _ _ 87 rfl 5 i0 (.int .u8 0) 1 Tryz.underlying87 HI.out.1 HI.out.2.1 HI.out.2.2.1 HI.out.2.2.2 rfl (.slice none 0 0) 0 [] [] rfl (Own.nil _ _ _) S v (bytesV b) rfl HV.out (bytesV_one _) ?c1 ?c2 ?c3))
  case c1 => rw [bytesV_length]; omega
  case c2 => rw [bytesV_length]; unfold maxLen; omega
  case c3 =>
    intro v' w1 F' hown hu
    rw [bytesV_length] at hown
    have h1 := HH.out.more (R := rBytes v' b) (own_bytes (by simpa using hown)) hu
    have h2 := (h1.block 221 #[v', .int .i64 0])
    have h3 := (h2.block 223 #[.pointer (some ⟨w1.heap.size, 0, none⟩)])
    have HP := hid (Held.cur_shut h3)
    obtain ⟨A, c, rfl⟩ := hown.form
    clear hown hu h1 h2 h3
    go_wp2
    go_ret
    exact ⟨_, rfl, by simpa using HP.out⟩

theorem cmade_any (w : World) (q p : Nat) (hq : w.cell? ⟨q, 0, none⟩ = some (.pointer (some ⟨p, 0, none⟩))) :
    Calls Tryz.prog 158 #[.pointer (some ⟨q, 0, none⟩)] w fun e w' => e = .returned (.bool true) ∧ w' = w := by
  go_enter Tryz.func158, Tryz.ntmps158
  go_wp2
  go_ret
  exact ⟨rfl, rfl⟩
set_option maxRecDepth 100000 in
theorem cleft_any (w : World) (p : Nat) (A : Option Addr) (n c at_ : Nat) (h0 : w.cell? ⟨p, 0, none⟩ = some (.slice A n c)) (h1 : w.cell? ⟨p, 1, none⟩ = some (.int .i64 at_)) (hle : at_ ≤ n) (hn : n ≤ 9223372036854775807) :
    Calls Tryz.prog 159 #[.pointer (some ⟨p, 0, none⟩)] w fun e w' => e = .returned (.int .i64 ((n - at_ : Nat) : Int)) ∧ ∃ k, w' = w.drewN k := by
  have hs := hid (show IntKind.i64.wrap ((n : Int) - (at_ : Int)) = ((n - at_ : Nat) : Int) by rw [IntKind.wrap_i64]; omega)
  go_enter Tryz.func159, Tryz.ntmps159
  go_wp2_with fail
  go_quiet (fail)
  go_wp2_with fail
  go_ret
  refine ⟨?_, _, rfl⟩
  show Ending.returned (.int .i64 _) = _
  congr 2
  first | exact hs.out | omega

set_option maxRecDepth 100000 in
theorem cpeek_any (w : World) (q p : Nat) (A : Option Addr) (n c : Nat) (x : UInt8) (hx : x.toNat ≤ 247) (hq : w.cell? ⟨q, 0, none⟩ = some (.pointer (some ⟨p, 0, none⟩))) (h0 : w.cell? ⟨p, 0, none⟩ = some (.slice A n c)) (h1 : w.cell? ⟨p, 1, none⟩ = some (.int .i64 0))
    (hn : 0 < n) (hm : n ≤ 9223372036854775807) {bb off : Nat} (hA : A = some ⟨bb, off, none⟩) (hc : w.cell? ⟨bb, off, none⟩ = some (.int .u8 x.toNat)) :
    Calls Tryz.prog 195 #[.pointer (some ⟨q, 0, none⟩)] w fun e w' => e = .returned (.tuple #[.int .i64 x.toNat, .int .i64 1, .int .i64 0]) ∧ ∃ k, w' = w.drewN k := by
  subst hA
  have HM := hid (cmade_any w q p hq)
  have HL := hid (cleft_any w p _ n c 0 h0 h1 (Nat.zero_le _) hm)
  rw [Nat.sub_zero] at HL
  have hn0 : (0 : Int) < (n : Int) := by omega
  have hn1 : ¬ ((n : Int) = 0) := by omega
  go_enter Tryz.func195, Tryz.ntmps195
  go_wp2_with (first
    | (go_at_call 158; refine HM.out.mono ?_; rintro e w' ⟨rfl, rfl⟩)
    | (go_at_call 159; refine HL.out.mono ?_; rintro e w' ⟨rfl, k1, rfl⟩))
  go_quiet (fail)
  go_wp2_with fail
  go_ret3
  exact ⟨rfl, _, rfl⟩

set_option maxRecDepth 100000 in
theorem cnumber_held {w0 w : World} {B : List Res} {q : Nat} {x : UInt8} {r : List UInt8} (h : Held w0 w (rCur q (x :: r) 0 :: B)) (hx : x.toNat ≤ 247) :
    Calls Tryz.prog 154 #[.pointer (some ⟨q, 0, none⟩)] w fun e w' => e = .returned (.tuple #[.int .i64 x.toNat, .int .i64 0]) ∧ Held w0 w' (rCur q (x :: r) 1 :: B) := by
  obtain ⟨p, v, h1⟩ := h.cur_open
  have c1 : w.cell? ⟨q, 0, none⟩ = some (.pointer (some ⟨p, 0, none⟩)) := h1.blk0.cell rfl
  have b2 := h1.pull1.blk0
  have c3 : w.cell? ⟨p, 1, none⟩ = some (.int .i64 0) := b2.cell rfl
  have c2 : w.cell? ⟨p, 0, none⟩ = some v := b2.cell rfl
  have hr := Held.bytes (l1 := [_, _]) h1
  obtain ⟨A, c, rfl, hc, hm⟩ := Held.form (l1 := [_, _]) h1
  obtain ⟨bb, off, rfl, -, hcell⟩ := rd_at hr (k := 0) (by simp)
  have HP := hid (cpeek_any w q p _ (x :: r).length c x hx c1 c2 c3 (by simp) (by omega) rfl (hcell 0 (by simp)))
  have HH := hid (fun k => ((h1.drewN k).pull1.store (l1 := []) 1 (.int .i64 1)).push1.cur_shut)
  have f2 := b2.frozen 1
  clear h h1 hr hcell b2
  go_enter Tryz.func154, Tryz.ntmps154
  go_wp2_with (first
    | (go_at_call 195; refine HP.out.mono ?_; rintro e w' ⟨rfl, k1, rfl⟩))
  go_ret2
  exact ⟨rfl, HH.out k1⟩

theorem rd_from {S : Nat → Prop} {w : World} {bb off m c : Nat} {b : List UInt8} (h : Rd S w (.slice (some ⟨bb, off, none⟩) m c) (bytesV b)) {lo : Nat} (hlo : lo ≤ b.length) (hp : lo ≠ 0) :
    Rd S w (.slice (if c = lo then some ⟨bb, off, none⟩ else some ⟨bb, off + lo, none⟩) (m - lo) (c - lo)) (bytesV (b.drop lo)) := by
  have hm : m = b.length := by obtain ⟨A', c', hv, -⟩ := h; injection hv with e1 e2 e3; rw [e2, bytesV_length]
  have h1 := Rd.drop h (k := lo) (by omega)
  rw [← bytesV_drop] at h1
  simpa [Addr.add, hp] using h1

set_option maxRecDepth 100000 in
theorem crest_held {w0 w : World} {B : List Res} {q : Nat} {x : UInt8} {r : List UInt8} (h : Held w0 w (rCur q (x :: r) 1 :: B)) (hl : r.length ≤ 1099511627776) :
    Calls Tryz.prog 155 #[.pointer (some ⟨q, 0, none⟩)] w fun e w' => ∃ v', e = .returned v' ∧ Held w0 w' (rBytes v' r :: B) := by
  obtain ⟨p, v, h1⟩ := h.cur_open
  have c1 : w.cell? ⟨q, 0, none⟩ = some (.pointer (some ⟨p, 0, none⟩)) := h1.blk0.cell rfl
  have b2 := h1.pull1.blk0
  have c3 : w.cell? ⟨p, 1, none⟩ = some (.int .i64 1) := b2.cell rfl
  have c2 : w.cell? ⟨p, 0, none⟩ = some v := b2.cell rfl
  have hr := Held.bytes (l1 := [_, _]) h1
  obtain ⟨A, c, rfl, hc, hm⟩ := Held.form (l1 := [_, _]) h1
  obtain ⟨bb, off, rfl, -, hcell⟩ := rd_at hr (k := 0) (by simp)
  have HM := hid (cmade_any w q p c1)
  have hr1 := rd_from hr (lo := 1) (by simp) (by decide)
  have f2 := b2.frozen 1
  obtain ⟨i0, hi, hz0, hz1, hz2⟩ := info_parts Tryz.info5
  have HI := hid (And.intro hi (And.intro hz0 (And.intro hz1 hz2)))
  have HR := hid hr1
  have HH := hid (Held.nil_own h1 5)
  have hc1 : (1 : Int) ≤ (c : Int) := by simp at hc; omega
  rw [show (x :: r).length = r.length + 1 from rfl] at *
  have hc2 : (1 : Int) ≤ (r.length : Int) + 1 := by omega
  have hc3 : (r.length : Int) + 1 ≤ (c : Int) := by omega
  clear h h1 hr hcell b2 hi hz0 hz1 hz2 hr1
  go_enter Tryz.func155, Tryz.ntmps155
  go_wp2_with (first
    | (go_at_call 158; refine HM.out.mono ?_; rintro e w' ⟨rfl, rfl⟩))
  go_region_held3 (fun w' => w'.cell? ⟨q, 0, none⟩ = some (.pointer (some ⟨p, 0, none⟩)) ∧ w'.cell? ⟨p, 1, none⟩ = some (.int .i64 1) ∧ w'.cell? ⟨p, 0, none⟩ = some (.slice (some ⟨bb, off, none⟩) (r.length + 1) c))
    (first | exact ⟨c1, c3, c2⟩ | exact ⟨d1, d3, d2⟩)
    (first
      | (refine step_append_held [] _ rfl _ _ 87 rfl 5 i0 (.int .u8 0) 1 Tryz.underlying87 HI.out.1 HI.out.2.1 HI.out.2.2.1 HI.out.2.2.2 rfl (.slice none 0 0) [] rfl (HH.out.step ((Mod.refl _ _).drew)) (fun _ => True) _ (bytesV r) rfl HR.out.drew (bytesV_one _) (by rw [bytesV_length]; simp; omega) (by rw [bytesV_length]; unfold maxLen; simp; omega) ?_; intro A' c' w4 q1 q2 g4; simp only [List.nil_append, List.length_nil, Nat.zero_add] at g4; have d1 : w4.cell? ⟨q, 0, none⟩ = some (.pointer (some ⟨p, 0, none⟩)) := g4.pull1.blk0.cell rfl; have b4 := g4.pull2.blk0; have d3 : w4.cell? ⟨p, 1, none⟩ = some (.int .i64 1) := b4.cell rfl; have d2 : w4.cell? ⟨p, 0, none⟩ = some (.slice (some ⟨bb, off, none⟩) (r.length + 1) c) := b4.cell rfl; have f4 := b4.frozen 1; have g5 := Held.store (l1 := []) (Held.drew g4).pull2 1 (.int .i64 ((r.length : Int) + 1)); have g6 := Held.drop0 g5; have HS := hid (g6.pull1.drop0.pull1.drop0); clear g4 g5 g6 b4))
  generalize (if c = 1 then (some ⟨bb, off, none⟩ : Option Addr) else some ⟨bb, off + 1, none⟩) = uu
  go_wp2_with fail
  go_region
  all_goals
    go_wp2_with fail
    go_ret
    exact ⟨.slice A' (bytesV r).length c', rfl, HS.out⟩
end Go.Proofs.YtdbhccehbjhbpaaGreatDoor
