/- link: the contracts of Cut, Ends, Waiting, Done. -/
import Derived.Test.YtcdeknbbeghljaaL8
import Derived.Test.YtcdeknbbeghljaaL12
namespace Go.Proofs.Ytcdeknbbeghljaa
open Go.RowKit
open Go.ChangeMaps (setBlock)
open Go.Maps (Keyed)
namespace Link

def Net.cut (n : Net) (id : Int) : Net × Int := match n.get id with
  | none => (n, 30)
  | some _ => (n.del id, 0)
def Net.ends (n : Net) (id : Int) : Int × Int × Int := match n.get id with
  | none => (0, 0, 30)
  | some c => (c.a, c.b, 0)
def Net.waiting (n : Net) (id to_ : Int) : Int × Int := match n.get id with
  | none => (0, 30)
  | some c => if c.end_ to_ = -1 then (0, 1) else ((c.to (c.end_ to_)).way.length, 0)
def Net.done (n : Net) (id to_ : Int) : Bool := match n.get id with
  | none => true
  | some c => if c.end_ to_ = -1 then true else (c.to (c.end_ to_)).shut && decide ((c.to (c.end_ to_)).way.length = 0)

end Link
open Link

theorem len_beq {α : Type} (l : List α) : ((l.length : Int) == 0) = decide (l.length = 0) := by
  cases l with
  | nil => rfl
  | cons a l => simp; omega

def CutPost (p : Nat) (n : Net) (w : World) (F : List Nat) (w' : World) : Prop := ∃ F', NetAt p n w' F' ∧ Upd w w' F F'

set_option maxRecDepth 100000 in
set_option maxHeartbeats 2000000 in
theorem cut_any (p : Nat) (n : Net) (w : World) (F : List Nat) (id : Int) (hNet : NetAt p n w F) (hn : F.Nodup) (hok : n.Ok) (hl : n.last ≤ 1000000001) (hwf : (Lit.int .i64 id).wf = true) :
    Calls Try.prog 19 #[.pointer (some ⟨p, 0, none⟩), .int .i64 id] w fun e w' =>
      e = .returned (.int .i64 (n.cut id).2) ∧ ∃ F', NetAt p (n.cut id).1 w' F' ∧ Upd w w' F F' := by
  cases hg : n.get id with
  | none =>
    have hd : n.cut id = (n, 30) := by simp [Net.cut, hg]
    obtain ⟨bm, c0, hlk⟩ := hNet.lookup_none hwf hg
    have HM := hid (made_any w p (some bm) c0)
    have HD := hid hd
    clear hd hg
    go_enter Try.func19, Try.ntmps19
    go_wp2_with (first
      | (go_at_call 30; refine HM.out.mono ?_; rintro e w' ⟨rfl, rfl⟩))
    go_ret
    rw [HD.out]
    exact ⟨rfl, _, hNet, Upd.refl _ hn⟩
  | some c =>
    have hd : n.cut id = (n.del id, 0) := by simp [Net.cut, hg]
    obtain ⟨bm, b, s0, s1, F0, F1, c0, hlk, -, -, -, -, -, -⟩ := hNet.focus hn hok hl hg
    obtain ⟨bm', c0', hD⟩ := hNet.delete hn hok hl hg
    obtain rfl : bm = bm' := by rw [c0] at c0'; injection c0' with h; injection h with h; injection h
    have HM := hid (made_any w p (some bm) c0)
    have HP := hid (hD w (Mod.refl _ _))
    have HD := hid hd
    clear hd hg hD c0'
    go_enter Try.func19, Try.ntmps19
    go_wp2_with (first
      | (go_at_call 30; refine HM.out.mono ?_; rintro e w' ⟨rfl, rfl⟩)
      | (at_delete; refine wpList_delete_ex _ rfl _ _ 46 3 rfl _ _ rfl rfl (CutPost p (n.del id) w F) HP.out ?c2))
    case c2 =>
      intro w' hPost
      have HQ := hid hPost
      clear hPost
      go_wp2
      go_ret
      rw [HD.out]
      exact ⟨rfl, HQ.out⟩

set_option maxRecDepth 100000 in
set_option maxHeartbeats 2000000 in
theorem ends_any (p : Nat) (n : Net) (w : World) (F : List Nat) (id : Int) (hNet : NetAt p n w F) (hn : F.Nodup) (hok : n.Ok) (hl : n.last ≤ 1000000001) (hwf : (Lit.int .i64 id).wf = true) :
    Calls Try.prog 22 #[.pointer (some ⟨p, 0, none⟩), .int .i64 id] w fun e w' =>
      e = .returned (.tuple #[.int .i64 (n.ends id).1, .int .i64 (n.ends id).2.1, .int .i64 (n.ends id).2.2]) ∧ Mod (fun _ => False) w w' := by
  cases hg : n.get id with
  | none =>
    have hd : n.ends id = (0, 0, 30) := by simp [Net.ends, hg]
    obtain ⟨bm, c0, hlk⟩ := hNet.lookup_none hwf hg
    have HM := hid (made_any w p (some bm) c0)
    have HD := hid hd
    clear hd hg
    go_enter Try.func22, Try.ntmps22
    go_wp2_with (first
      | (go_at_call 30; refine HM.out.mono ?_; rintro e w' ⟨rfl, rfl⟩))
    go_ret3
    rw [HD.out]
    exact ⟨rfl, by repeat (first | exact Mod.refl _ _ | refine Mod.drewN ?_ _ | refine Mod.drew ?_)⟩
  | some c =>
    have hd : n.ends id = (c.a, c.b, 0) := by simp [Net.ends, hg]
    obtain ⟨bm, b, s0, s1, F0, F1, c0, hlk, hb, -, -, -, -, -⟩ := hNet.focus hn hok hl hg
    have e0 : w.cell? ⟨b, 0, none⟩ = some (.int .i64 c.a) := hb.cell rfl
    have e1 : w.cell? ⟨b, 1, none⟩ = some (.int .i64 c.b) := hb.cell rfl
    have HM := hid (made_any w p (some bm) c0)
    have HD := hid hd
    clear hd hg hb
    go_enter Try.func22, Try.ntmps22
    go_wp2_with (first
      | (go_at_call 30; refine HM.out.mono ?_; rintro e w' ⟨rfl, rfl⟩))
    go_region
    go_wp2
    go_ret3
    rw [HD.out]
    exact ⟨rfl, by repeat (first | exact Mod.refl _ _ | refine Mod.drewN ?_ _ | refine Mod.drew ?_)⟩

set_option maxRecDepth 100000 in
set_option maxHeartbeats 2000000 in
theorem waiting_any (p : Nat) (n : Net) (w : World) (F : List Nat) (id node : Int) (hNet : NetAt p n w F) (hn : F.Nodup) (hok : n.Ok) (hl : n.last ≤ 1000000001) (hwf : (Lit.int .i64 id).wf = true) :
    Calls Try.prog 23 #[.pointer (some ⟨p, 0, none⟩), .int .i64 id, .int .i64 node] w fun e w' =>
      e = .returned (.tuple #[.int .i64 (n.waiting id node).1, .int .i64 (n.waiting id node).2]) ∧ w = w' := by
  cases hg : n.get id with
  | none =>
    have hd : n.waiting id node = (0, 30) := by simp [Net.waiting, hg]
    obtain ⟨bm, c0, hlk⟩ := hNet.lookup_none hwf hg
    have HL := hid (look_none p bm w id node c0 hlk)
    have HD := hid hd
    clear hd hlk hg
    go_enter Try.func23, Try.ntmps23
    go_wp2_with (first
      | (go_at_call 31; refine HL.out.mono ?_; rintro e w' ⟨rfl, rfl⟩))
    go_ret2
    rw [HD.out]
    exact ⟨rfl, rfl⟩
  | some c =>
    obtain ⟨bm, b, s0, s1, F0, F1, c0, hlk, hb, h0, h1, -, -, -⟩ := hNet.focus hn hok hl hg
    have HL0 := look_some p bm b w id node c s0 s1 c0 hlk hb
    obtain ⟨A0, k0, rfl⟩ := h0.form
    obtain ⟨A1, k1, rfl⟩ := h1.form
    have e2 : w.cell? ⟨b, 2, none⟩ = some (.slice A0 c.p0.way.length k0) := hb.cell rfl
    have e4 : w.cell? ⟨b, 4, none⟩ = some (.slice A1 c.p1.way.length k1) := hb.cell rfl
    rcases end_cases c node with hend | hend | hend
    · have hd : n.waiting id node = (0, 1) := by simp [Net.waiting, hg, hend]
      have HD := hid hd
      rw [hend, lookOf_m1] at HL0
      have HL := hid HL0
      clear HL0 hd hend hg hlk
      go_enter Try.func23, Try.ntmps23
      go_wp2_with (first
        | (go_at_call 31; refine HL.out.mono ?_; rintro e w' ⟨rfl, rfl⟩))
      go_ret2
      rw [HD.out]
      exact ⟨rfl, rfl⟩
    · have hd : n.waiting id node = ((c.p0.way.length : Int), 0) := by simp [Net.waiting, hg, hend, Conn.to]
      have HD := hid hd
      rw [hend, lookOf_0] at HL0
      have HL := hid HL0
      clear HL0 hd hend hg hlk
      go_enter Try.func23, Try.ntmps23
      go_wp2_with (first
        | (go_at_call 31; refine HL.out.mono ?_; rintro e w' ⟨rfl, rfl⟩))
      go_ret2
      rw [HD.out]
      exact ⟨rfl, rfl⟩
    · have hd : n.waiting id node = ((c.p1.way.length : Int), 0) := by simp [Net.waiting, hg, hend, Conn.to]
      have HD := hid hd
      rw [hend, lookOf_1] at HL0
      have HL := hid HL0
      clear HL0 hd hend hg hlk
      go_enter Try.func23, Try.ntmps23
      go_wp2_with (first
        | (go_at_call 31; refine HL.out.mono ?_; rintro e w' ⟨rfl, rfl⟩))
      go_ret2
      rw [HD.out]
      exact ⟨rfl, rfl⟩

set_option maxRecDepth 100000 in
set_option maxHeartbeats 2000000 in
theorem done_any (p : Nat) (n : Net) (w : World) (F : List Nat) (id node : Int) (hNet : NetAt p n w F) (hn : F.Nodup) (hok : n.Ok) (hl : n.last ≤ 1000000001) (hwf : (Lit.int .i64 id).wf = true) :
    Calls Try.prog 25 #[.pointer (some ⟨p, 0, none⟩), .int .i64 id, .int .i64 node] w fun e w' =>
      e = .returned (.bool (n.done id node)) ∧ Mod (fun _ => False) w w' := by
  cases hg : n.get id with
  | none =>
    have hd : n.done id node = true := by simp [Net.done, hg]
    obtain ⟨bm, c0, hlk⟩ := hNet.lookup_none hwf hg
    have HL := hid (look_none p bm w id node c0 hlk)
    have HD := hid hd
    clear hd hlk hg
    go_enter Try.func25, Try.ntmps25
    go_wp2_with (first
      | (go_at_call 31; refine HL.out.mono ?_; rintro e w' ⟨rfl, rfl⟩))
    go_ret
    rw [HD.out]
    exact ⟨rfl, by repeat (first | exact Mod.refl _ _ | refine Mod.drewN ?_ _ | refine Mod.drew ?_)⟩
  | some c =>
    obtain ⟨bm, b, s0, s1, F0, F1, c0, hlk, hb, h0, h1, -, -, -⟩ := hNet.focus hn hok hl hg
    have HL0 := look_some p bm b w id node c s0 s1 c0 hlk hb
    obtain ⟨A0, k0, rfl⟩ := h0.form
    obtain ⟨A1, k1, rfl⟩ := h1.form
    have e2 : w.cell? ⟨b, 2, none⟩ = some (.slice A0 c.p0.way.length k0) := hb.cell rfl
    have e3 : w.cell? ⟨b, 3, none⟩ = some (.bool c.p0.shut) := hb.cell rfl
    have e4 : w.cell? ⟨b, 4, none⟩ = some (.slice A1 c.p1.way.length k1) := hb.cell rfl
    have e5 : w.cell? ⟨b, 5, none⟩ = some (.bool c.p1.shut) := hb.cell rfl
    rcases end_cases c node with hend | hend | hend
    · have hd : n.done id node = true := by simp [Net.done, hg, hend]
      have HD := hid hd
      rw [hend, lookOf_m1] at HL0
      have HL := hid HL0
      clear HL0 hd hend hg hlk
      go_enter Try.func25, Try.ntmps25
      go_wp2_with (first
        | (go_at_call 31; refine HL.out.mono ?_; rintro e w' ⟨rfl, rfl⟩))
      go_ret
      rw [HD.out]
      exact ⟨rfl, by repeat (first | exact Mod.refl _ _ | refine Mod.drewN ?_ _ | refine Mod.drew ?_)⟩
    · have hd : n.done id node = (c.p0.shut && decide (c.p0.way.length = 0)) := by simp [Net.done, hg, hend, Conn.to]
      have HD := hid hd
      rw [hend, lookOf_0] at HL0
      have HL := hid HL0
      clear HL0 hd hend hg hlk
      go_enter Try.func25, Try.ntmps25
      cases hsh : c.p0.shut with
      | false =>
        rw [hsh] at e3 HD
        go_wp2_with (first
          | (go_at_call 31; refine HL.out.mono ?_; rintro e w' ⟨rfl, rfl⟩))
        go_ret
        rw [HD.out]
        exact ⟨by first | rfl | (simp only [Bool.true_and, len_beq]; rfl), by repeat (first | exact Mod.refl _ _ | refine Mod.drewN ?_ _ | refine Mod.drew ?_)⟩
      | true =>
        rw [hsh] at e3 HD
        go_wp2_with (first
          | (go_at_call 31; refine HL.out.mono ?_; rintro e w' ⟨rfl, rfl⟩))
        go_ret
        rw [HD.out]
        exact ⟨by first | rfl | (simp only [Bool.true_and, len_beq]; rfl), by repeat (first | exact Mod.refl _ _ | refine Mod.drewN ?_ _ | refine Mod.drew ?_)⟩
    · have hd : n.done id node = (c.p1.shut && decide (c.p1.way.length = 0)) := by simp [Net.done, hg, hend, Conn.to]
      have HD := hid hd
      rw [hend, lookOf_1] at HL0
      have HL := hid HL0
      clear HL0 hd hend hg hlk
      go_enter Try.func25, Try.ntmps25
      cases hsh : c.p1.shut with
      | false =>
        rw [hsh] at e5 HD
        go_wp2_with (first
          | (go_at_call 31; refine HL.out.mono ?_; rintro e w' ⟨rfl, rfl⟩))
        go_ret
        rw [HD.out]
        exact ⟨by first | rfl | (simp only [Bool.true_and, len_beq]; rfl), by repeat (first | exact Mod.refl _ _ | refine Mod.drewN ?_ _ | refine Mod.drew ?_)⟩
      | true =>
        rw [hsh] at e5 HD
        go_wp2_with (first
          | (go_at_call 31; refine HL.out.mono ?_; rintro e w' ⟨rfl, rfl⟩))
        go_ret
        rw [HD.out]
        exact ⟨by first | rfl | (simp only [Bool.true_and, len_beq]; rfl), by repeat (first | exact Mod.refl _ _ | refine Mod.drewN ?_ _ | refine Mod.drew ?_)⟩
end Go.Proofs.Ytcdeknbbeghljaa
