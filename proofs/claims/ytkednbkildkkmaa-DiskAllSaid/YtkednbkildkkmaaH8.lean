/- DiskAll: the walk. -/
import Derived.Test.YtkednbkildkkmaaH81
import Derived.Test.YtkednbkildkkmaaH1
namespace Go.Proofs.Ytkednbkildkkmaa
open Go.RowKit
open Disk

set_option maxRecDepth 100000 in
set_option maxHeartbeats 2000000 in
theorem all_walk (w : World) (room : Int) (v : Value) (ds : List Do) (h : Dos w.heap.size w v ds) (tear : Int) :
    Calls Try.prog 11 #[.int .i64 room, v, .int .i64 tear] w fun e w' => e = .returned (.bool true) ∧ Below w.heap.size w w' := by
  have HM := hid (made_held (Held.begin w) room v ds h)
  clear h
  obtain ⟨t0, ht0⟩ : ∃ t : Int, t = min tear 0 := ⟨_, rfl⟩
  have HT := hid ht0
  clear ht0
  go_enter Try.func11, Try.ntmps11
  go_wp2_with fail
  refine HM.out.mono ?_
  rintro e w1 ⟨n, p, ok, hn, rfl, hs, g⟩
  cases ok with
  | false =>
    have G := hid g
    clear g hs HM
    go_wp2_with fail
    refine (awake_any w1).mono ?_
    rintro e w2 ⟨rfl, hm⟩
    go_wp2_with fail
    go_ret
    exact ⟨rfl, (G.out.step hm).below⟩
  | true =>
    obtain ⟨hl, -⟩ := hs rfl
    have hok := diskOf_ok hn ds
    have hpl := diskOf_pend n ds
    have hsm := diskOf_small n ds
    simp only [if_true] at g
    generalize diskOf n ds = d at *
    have C1 := hid (clone_disk g hok (by omega))
    have HO := hid (And.intro hok (And.intro hpl (And.intro hl hsm)))
    clear g hok hpl hs hsm HM hl
    go_wp2_with fail
    refine C1.out.mono ?_
    rintro e w2 ⟨q, rfl, g⟩
    have G := hid (g.more (w' := w2.alloc (.cells #[.bool true] 4)) (R := rOwn 4 (.slice (some ⟨w2.heap.size, 0, none⟩) 1 1) [.bool true]) (F := [w2.heap.size]) ⟨World.ownsRow_lit w2 #[.bool true] 1 (Nat.zero_le _) (by simp [maxLen]) (by simp), rfl⟩ ⟨(Mod.refl _ w2).alloc _, by simp, fun b hb => .inr (by simp at hb; omega)⟩)
    have C2 := hid (pending_held G.out.pull2)
    have C3 := hid (repeat_held G.out d.pending.length (by have := HO.out.2.1; have := HO.out.2.2.1; omega))
    clear g C1
    go_wp2_with fail
    refine C2.out.mono ?_
    rintro e w3 ⟨rfl, rfl⟩
    clear C2 G
    go_wp2_with fail
    refine C3.out.mono ?_
    rintro e w3 ⟨kv, rfl, g⟩
    obtain ⟨kA, kc, rfl⟩ := bools_form (Held.own_rd (l1 := []) g)
    have hks : Src w [] [rOwn 4 (.slice kA (List.replicate d.pending.length true).length kc) (boolsV (List.replicate d.pending.length true)), rOwn 4 (.slice (some ⟨w2.heap.size, 0, none⟩) 1 1) [.bool true], rDisk q d] (.slice kA (List.replicate d.pending.length true).length kc) (boolsV (List.replicate d.pending.length true)) := fun w' M hh => Held.own_rd (l1 := M) hh
    have C4 := hid (crash_held g.pull3 HO.out.1 (by have := HO.out.2.1; have := HO.out.2.2.1; omega) (List.replicate d.pending.length true) kA kc hks (min tear 0))
    rw [List.length_replicate] at C4
    clear C3 g hks
    rw [List.length_replicate]
    go_wp2_with fail
    refine C4.out.mono ?_
    rintro e w4 ⟨rfl, g⟩
    have C5 := hid (same_held g.pull3 HO.out.1 (HO.out.1.crash _ (min tear 0)) (HO.out.1.crash_all (tear := min tear 0) (Int.min_le_right _ _)) (by have := HO.out.2.2.2.seen; have := HO.out.2.2.1; omega))
    clear g C4
    go_wp2_with fail
    refine C5.out.mono ?_
    rintro e w5 ⟨rfl, g⟩
    have C6 := hid (pending_held g.pull1)
    rw [crash_pend] at C6
    have G := hid g
    clear g C5
    go_wp2_with fail
    refine C6.out.mono ?_
    rintro e w7 ⟨rfl, rfl⟩
    clear C6
    simp only [List.length_nil]
    go_wp2_with fail
    refine (awake_any w5).mono ?_
    rintro e w7 ⟨rfl, hm⟩
    go_wp2_with fail
    go_ret
    exact ⟨rfl, (G.out.step hm).below⟩
end Go.Proofs.Ytkednbkildkkmaa
