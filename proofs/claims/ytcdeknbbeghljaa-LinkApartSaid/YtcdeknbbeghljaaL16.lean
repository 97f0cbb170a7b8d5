/- link: Cut, Ends, Waiting, Done over what is held; and all calls of a net that no call made. -/
import Derived.Test.YtcdeknbbeghljaaL15
namespace Go.Proofs.Ytcdeknbbeghljaa
open Go.RowKit
open Go.ChangeMaps (setBlock)
open Go.Maps (Keyed)
open Link

theorem cut_held {w0 w : World} (l1 l2 : List Res) {p : Nat} {n : Net} (h : Held w0 w (l1 ++ rNet p n :: l2)) (hok : n.Ok) (hl : n.last ≤ 1000000001) (id : Int) (hwf : (Lit.int .i64 id).wf = true) :
    Calls Try.prog 19 #[.pointer (some ⟨p, 0, none⟩), .int .i64 id] w fun e w' =>
      e = .returned (.int .i64 (n.cut id).2) ∧ Held w0 w' (l1 ++ rNet p (n.cut id).1 :: l2) := by
  obtain ⟨F, hR, nF, _, hb⟩ := h.use
  exact (cut_any p n w F id hR nF hok hl hwf).mono fun _ _ ⟨he, F', h1, h2⟩ => ⟨he, hb _ _ F' h1 h2⟩
theorem ends_held {w0 w : World} (l1 l2 : List Res) {p : Nat} {n : Net} (h : Held w0 w (l1 ++ rNet p n :: l2)) (hok : n.Ok) (hl : n.last ≤ 1000000001) (id : Int) (hwf : (Lit.int .i64 id).wf = true) :
    Calls Try.prog 22 #[.pointer (some ⟨p, 0, none⟩), .int .i64 id] w fun e w' =>
      e = .returned (.tuple #[.int .i64 (n.ends id).1, .int .i64 (n.ends id).2.1, .int .i64 (n.ends id).2.2]) ∧ Held w0 w' (l1 ++ rNet p n :: l2) := by
  obtain ⟨F, hR, nF, _, hb⟩ := h.use
  exact (ends_any p n w F id hR nF hok hl hwf).mono fun _ _ ⟨he, h1⟩ => ⟨he, h.step h1⟩
theorem waiting_held {w0 w : World} (l1 l2 : List Res) {p : Nat} {n : Net} (h : Held w0 w (l1 ++ rNet p n :: l2)) (hok : n.Ok) (hl : n.last ≤ 1000000001) (id node : Int) (hwf : (Lit.int .i64 id).wf = true) :
    Calls Try.prog 23 #[.pointer (some ⟨p, 0, none⟩), .int .i64 id, .int .i64 node] w fun e w' =>
      e = .returned (.tuple #[.int .i64 (n.waiting id node).1, .int .i64 (n.waiting id node).2]) ∧ w = w' := by
  obtain ⟨F, hR, nF, _, hb⟩ := h.use
  exact waiting_any p n w F id node hR nF hok hl hwf
theorem done_held {w0 w : World} (l1 l2 : List Res) {p : Nat} {n : Net} (h : Held w0 w (l1 ++ rNet p n :: l2)) (hok : n.Ok) (hl : n.last ≤ 1000000001) (id node : Int) (hwf : (Lit.int .i64 id).wf = true) :
    Calls Try.prog 25 #[.pointer (some ⟨p, 0, none⟩), .int .i64 id, .int .i64 node] w fun e w' =>
      e = .returned (.bool (n.done id node)) ∧ Held w0 w' (l1 ++ rNet p n :: l2) := by
  obtain ⟨F, hR, nF, _, hb⟩ := h.use
  exact (done_any p n w F id node hR nF hok hl hwf).mono fun _ _ ⟨he, h1⟩ => ⟨he, h.step h1⟩

/-! ## a net that no call made -/
def NotMade (v : Value) (w : World) : Prop := v = .pointer none ∨ ∃ b, v = .pointer (some ⟨b, 0, none⟩) ∧ w.cell? ⟨b, 0, none⟩ = some (.map none)
theorem NotMade.step {v : Value} {w w' : World} (h : NotMade v w) (hm : Mod (fun _ => False) w w') : NotMade v w' := by
  rcases h with h | ⟨b, h, hc⟩
  · exact .inl h
  · exact .inr ⟨b, h, hm.cell hc (fun h => h)⟩

theorem made_no (v : Value) (w : World) (h : NotMade v w) : Calls Try.prog 30 #[v] w fun e w' => e = .returned (.bool false) ∧ w = w' := by
  rcases h with rfl | ⟨b, rfl, hc⟩
  · exact made_nil w
  · exact made_any w b none hc

set_option maxRecDepth 100000 in
theorem look_no (v : Value) (w : World) (id node : Int) (h : NotMade v w) :
    Calls Try.prog 31 #[v, .int .i64 id, .int .i64 node] w fun e w' => e = .returned (.tuple #[.pointer none, .int .i64 0, .int .i64 8]) ∧ w = w' := by
  have HM := hid (made_no v w h)
  clear h
  go_enter Try.func31, Try.ntmps31
  go_wp2_with (first
    | (go_at_call 30; refine HM.out.mono ?_; rintro e w' ⟨rfl, rfl⟩))
  go_ret3
  exact ⟨rfl, rfl⟩
end Go.Proofs.Ytcdeknbbeghljaa
