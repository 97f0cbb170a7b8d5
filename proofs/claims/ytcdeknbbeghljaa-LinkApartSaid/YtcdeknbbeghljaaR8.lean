/- slices.Equal at ints, of the same numbers; bytes turned over in place. -/
import Derived.Test.YtcdeknbbeghljaaR6
namespace Go.Proofs.Ytcdeknbbeghljaa
open Go.RowKit

theorem intsV_length (l : List Int) : (intsV l).length = l.length := by simp [intsV]
set_option maxHeartbeats 1000000 in
theorem equal_ints (S T : Nat → Prop) (w : World) (v u : Value) (q : List Int) (h : Rd S w v (intsV q)) (h' : Rd T w u (intsV q)) :
    Calls Try.prog 47 #[v, u] w fun e w' => e = .returned (.bool true) ∧ ∃ n, w' = w.drewN n := by
  obtain ⟨A, c, rfl, hc, hmx, hA⟩ := h
  obtain ⟨B, d, rfl, hd, hmy, hB⟩ := h'
  rw [intsV_length] at hc hd ⊢
  unfold maxLen at hmx hmy
  by_cases hq0 : q = []
  · subst hq0
    go_enter Try.func47, Try.ntmps47
    go_wp2
    go_loop [5, 13] (fun _ i => i = .int .i64 0) (fun _ _ => 0)
    case atStart => rfl
    case round =>
      subst hrel
      go_wp2
      go_ret
      exact ⟨rfl, 0, rfl⟩
  · have hne0 : intsV q ≠ [] := by intro h; apply hq0; simpa [intsV] using h
    obtain ⟨b, off, rfl, _, hcell⟩ := hA hne0
    obtain ⟨b', off', rfl, _, hcell'⟩ := hB hne0
    clear hA hB hne0 hq0
    have HC := hid hcell
    have HC' := hid hcell'
    clear hcell hcell'
    go_enter Try.func47, Try.ntmps47
    go_wp2
    go_loopw [5, 13] (fun _ i wr => ∃ k n : Nat, k ≤ q.length ∧ i = .int .i64 k ∧ wr = w.drewN n) (fun _ i _ => q.length - (intOf i).toNat)
    case atStart => exact ⟨0, 0, Nat.zero_le _, rfl, rfl⟩
    case round =>
      obtain ⟨k, n, hk, rfl, rfl⟩ := hrel
      by_cases hlt : k < q.length
      · have c1 := HC.out k (.int .i64 q[k]) (by simp [intsV, hlt])
        have c2 := HC'.out k (.int .i64 q[k]) (by simp [intsV, hlt])
        generalize q[k] = x at *
        go_wp2
        go_quiet (fail)
        go_wp2
        go_roundw
        case rel => exact ⟨k + 1, _, by omega, by go_num, rfl⟩
        case measure => simp [intOf]; omega
      · go_wp2
        go_ret
        exact ⟨rfl, n, rfl⟩
end Go.Proofs.Ytcdeknbbeghljaa
