/- DiskFlushed, DiskAll: the walks. -/
import Derived.Test.YtkednbkildkkmaaG5
namespace Go.Proofs.Ytkednbkildkkmaa
open Go.RowKit
open Disk

theorem bools_form {S : Nat → Prop} {w : World} {v : Value} {l : List Bool} (h : Rd S w v (boolsV l)) : ∃ A c, v = .slice A l.length c := by
  obtain ⟨A, c, hv, -⟩ := h
  rw [boolsV_length] at hv
  exact ⟨A, c, hv⟩
theorem diskOf_small (n : Nat) (l : List Do) : (diskOf n l).Small l.length := by
  have := calls_small (small_empty n) l
  simpa [diskOf] using this

set_option maxRecDepth 100000 in
set_option maxHeartbeats 2000000 in
theorem flushed_walk (w : World) (room : Int) (v : Value) (ds : List Do) (h : Dos w.heap.size w v ds) (kv : Value) (ks : List Bool) (hk : Rd (· < w.heap.size) w kv (boolsV ks)) (tear : Int) :
    Calls Try.prog 7 #[.int .i64 room, v, kv, .int .i64 tear] w fun e w' => e = .returned (.bool true) ∧ Below w.heap.size w w' := by
  obtain ⟨kA, kc, rfl⟩ := bools_form hk
  have HM := hid (made_held (Held.begin w) room v ds h)
  have HK := hid hk
  clear h hk
  go_enter Try.func7, Try.ntmps7
  go_wp2_with fail
  refine HM.out.mono ?_
  rintro e w1 ⟨n, p, ok, hn, rfl, hs, g⟩
  cases ok with
  | false =>
    have G := hid g
    clear g hs HM
    go_wp2_with fail
    refine (awake_any w1).mono ?_
    rintro e w2 ⟨rfl, hm⟩
    go_wp2_with fail
    go_ret
    exact ⟨rfl, (G.out.step hm).below⟩
  | true =>
    obtain ⟨hl, -⟩ := hs rfl
    have hok := diskOf_ok hn ds
    have hpl := diskOf_pend n ds
    have hsm := diskOf_small n ds
    simp only [if_true] at g
    generalize diskOf n ds = d at *
    have C1 := hid (clone_disk g hok (by omega))
    have HO := hid (And.intro hok (And.intro hpl (And.intro hl hsm)))
    clear g hok hpl hs hsm HM hl
    go_wp2_with fail
    refine C1.out.mono ?_
    rintro e w2 ⟨q, rfl, g⟩
    -- clone, disk
    have C2 := hid (flush_held g.pull1 HO.out.1 (by have := HO.out.2.1; have := HO.out.2.2.1; omega))
    clear g C1
    go_wp2_with fail
    refine C2.out.mono ?_
    rintro e w3 ⟨rfl, g⟩
    have C3 := hid (pending_held g)
    rw [flush_pend] at C3
    have C4 := hid (same_held g.pull1 HO.out.1 HO.out.1.flush HO.out.1.flush_alike (by have := HO.out.2.2.2.seen; have := HO.out.2.2.1; omega))
    clear g C2
    go_wp2_with fail
    refine C3.out.mono ?_
    rintro e w4 ⟨rfl, rfl⟩
    clear C3
    simp only [List.length_nil]
    go_wp2_with fail
    refine C4.out.mono ?_
    rintro e w4 ⟨rfl, g⟩
    have hpf : d.flush.pending.length ≤ 1000000 := by rw [flush_pend]; simp
    have C5 := hid (crash_held g.pull1 HO.out.1.flush hpf ks kA kc (src_old HK.out) tear)
    clear g C4 hpf
    go_wp2_with fail
    refine C5.out.mono ?_
    rintro e w5 ⟨rfl, g⟩
    have C6 := hid (same_held g.pull1 HO.out.1 (HO.out.1.flush.crash ks tear) (HO.out.1.flush_alike.trans (HO.out.1.flush.crash_alike (flush_pend d) ks tear)) (by have := HO.out.2.2.2.seen; have := HO.out.2.2.1; omega))
    clear g C5
    go_wp2_with fail
    refine C6.out.mono ?_
    rintro e w6 ⟨rfl, g⟩
    have C7 := hid (pending_held g.pull1)
    rw [crash_pend] at C7
    have G := hid g
    clear g C6
    go_wp2_with fail
    refine C7.out.mono ?_
    rintro e w7 ⟨rfl, rfl⟩
    clear C7
    simp only [List.length_nil]
    go_wp2_with fail
    refine (awake_any w6).mono ?_
    rintro e w7 ⟨rfl, hm⟩
    go_wp2_with fail
    go_ret
    exact ⟨rfl, (G.out.step hm).below⟩
end Go.Proofs.Ytkednbkildkkmaa
