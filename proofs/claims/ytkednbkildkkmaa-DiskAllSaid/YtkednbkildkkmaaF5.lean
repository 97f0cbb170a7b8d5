/- disk: free. -/
import Derived.Test.YtkednbkildkkmaaF4
import Derived.StillTailTactics
namespace Go.Proofs.Ytkednbkildkkmaa
open Go.RowKit
open Disk

/-- where free looks. -/
def FreeLook (w0 : World) (B : List Res) (p : Nat) (cs : Array Value) (bh bl : Nat) (f : Files) (name : Bytes) : Prop :=
  ∀ w' h', Held w0 w' (rBlk p 52 cs :: rHeld bh h' :: B) →
    (Dict.get f name = none → (Instr.lookup 48 (.map (some bl)) (sv name) false).run Try.prog w' = .ok (.pointer none) w') ∧
    (∀ x, Dict.get f name = some x → ∃ b A c, (Instr.lookup 48 (.map (some bl)) (sv name) false).run Try.prog w' = .ok (.pointer (some ⟨b, 0, none⟩)) w' ∧ w'.cell? ⟨b, 0, none⟩ = some (.slice A x.length c) ∧ x.length ≤ c ∧ c ≤ 9223372036854775807)

theorem put_del {h : Dict Nat} {n : Bytes} {k : Nat} : Dict.put (Dict.del h n) n k = Dict.put h n k := by
  unfold Dict.put Dict.del
  rw [List.filter_filter]
  simp

set_option maxRecDepth 100000 in
set_option maxHeartbeats 1000000 in
theorem free_gen {w0 w : World} {B : List Res} {p bh bl : Nat} {cs : Array Value} {hd : Dict Nat} {f : Files} {name : Bytes} (h : Held w0 w (rBlk p 52 cs :: rHeld bh hd :: B)) (h4 : cs[4]? = some (.map (some bh))) (h2 : cs[2]? = some (.map (some bl)))
    (hn : name.length ≤ 9223372036854775807) (hl : FreeLook w0 B p cs bh bl f name) :
    Calls Try.prog 35 #[.pointer (some ⟨p, 0, none⟩), sv name] w fun e w' => e = .returned (.tuple #[]) ∧ Held w0 w' (rBlk p 52 cs :: rHeld bh (freed hd f name) :: B) := by
  have c4 := (Held.blk0 h).cell h4
  have HD := hid (Held.held_del (A := [_]) h hn)
  have HL := hid hl
  have H24 := hid (And.intro h2 (And.intro h4 hn))
  cases hg : Dict.get f name with
  | none =>
    have HF := hid (show freed hd f name = Dict.del hd name by unfold freed; rw [hg])
    have HG := hid hg
    clear h hl h2 h4 hg hn
    go_enter Try.func35, Try.ntmps35
    go_wp2_with (at_delete; refine wpList_delete_ex _ rfl _ _ 50 9 rfl _ _ rfl rfl _ HD.out ?c2)
    case c2 =>
      intro w1 g1
      have c2 := (Held.blk0 g1).cell H24.out.1
      have hlk := (HL.out _ _ g1).1 HG.out
      have G1 := hid g1
      clear g1 c4
      go_wp2_with fail
      go_end0
      rw [HF.out]
      exact ⟨rfl, G1.out⟩
  | some x =>
    by_cases h0 : x.length = 0
    · have HF := hid (show freed hd f name = Dict.del hd name by unfold freed; rw [hg]; simp [h0])
      have HG := hid hg
      have H0 := hid h0
      clear h hl h2 h4 hg hn h0
      go_enter Try.func35, Try.ntmps35
      go_wp2_with (at_delete; refine wpList_delete_ex _ rfl _ _ 50 9 rfl _ _ rfl rfl _ HD.out ?c3)
      case c3 =>
        intro w1 g1
        have c2 := (Held.blk0 g1).cell H24.out.1
        obtain ⟨b, A, c, hlk, hc, q1, q2⟩ := (HL.out _ _ g1).2 x HG.out
        rw [H0.out] at hc
        have G1 := hid g1
        clear g1 c4 q1 q2
        go_wp2_with fail
        go_end0
        rw [HF.out]
        exact ⟨rfl, G1.out⟩
    · have HF := hid (show freed hd f name = Dict.put (Dict.del hd name) name x.length by unfold freed; rw [hg, put_del]; simp [h0])
      have HG := hid hg
      have hpos : 0 < x.length := by omega
      clear h hl h2 h4 hg hn h0
      go_enter Try.func35, Try.ntmps35
      go_wp2_with (at_delete; refine wpList_delete_ex _ rfl _ _ 50 9 rfl _ _ rfl rfl _ HD.out ?c4)
      case c4 =>
        intro w1 g1
        have c2 := (Held.blk0 g1).cell H24.out.1
        have c4' := (Held.blk0 g1).cell H24.out.2.1
        obtain ⟨b, A, c, hlk, hc, q1, q2⟩ := (HL.out _ _ g1).2 x HG.out
        obtain ⟨w5, hr5, g5⟩ := Held.held_put (A := [_]) g1.drew H24.out.2.2 x.length
        have G5 := hid g5
        clear g1 g5 c4
        go_wp2_with fail
        go_still_tail 10, (by kernel_rfl)
        go_wp2_with fail
        go_end0
        rw [HF.out]
        exact ⟨rfl, G5.out⟩
end Go.Proofs.Ytkednbkildkkmaa
