/- The library's small functions that link reaches: slices.Index at ints, slices.Clone and slices.Equal at bytes. -/
import Derived.Test.YtcdeknbbeghljaaProg
import Derived.Test.YtcdeknbbeghljaaB2
import Derived.Deep.QuietTactic
import Derived.BigQuiet

namespace Go.Proofs.Ytcdeknbbeghljaa
open Go.RowKit

def intsV (l : List Int) : List Value := l.map (Value.int .i64)
def idx (l : List Int) (x : Int) : Int := match l.findIdx? (· == x) with | some i => i | none => -1

theorem idx_lo (l : List Int) (x : Int) (k : Nat) (hk : k < l.length) (h : ∀ j < k, l[j]? ≠ some x) (hx : l[k]? = some x) : idx l x = k := by
  have : l.findIdx? (· == x) = some k := by
    rw [List.findIdx?_eq_some_iff_getElem]
    refine ⟨hk, ?_, fun j hj => ?_⟩
    · have := List.getElem?_eq_getElem hk; rw [hx] at this; simp [← Option.some.inj this]
    · have h1 := h j hj
      have hjl : j < l.length := by omega
      rw [List.getElem?_eq_getElem hjl] at h1
      simpa using h1
  simp [idx, this]
theorem idx_none (l : List Int) (x : Int) (h : ∀ j < l.length, l[j]? ≠ some x) : idx l x = -1 := by
  have : l.findIdx? (· == x) = none := by
    rw [List.findIdx?_eq_none_iff]
    intro y hy
    obtain ⟨j, hj, rfl⟩ := List.getElem_of_mem hy
    have := h j hj
    rw [List.getElem?_eq_getElem hj] at this
    simpa using this
  simp [idx, this]

set_option maxHeartbeats 400000 in
theorem index_any (S : Nat → Prop) (w : World) (v : Value) (l : List Int) (x : Int) (h : Rd S w v (intsV l)) :
    Calls Try.prog 35 #[v, .int .i64 x] w fun e w' => e = .returned (.int .i64 (idx l x)) ∧ w = w' := by
  obtain ⟨A, c, rfl, hc, hm, hA⟩ := h
  have hl : (intsV l).length = l.length := by simp [intsV]
  rw [hl] at hc ⊢
  unfold maxLen at hm
  cases l with
  | nil =>
    go_enter Try.func35, Try.ntmps35
    go_wp2
    go_loop [5, 8] (fun _ i => i = .int .i64 0) (fun _ _ => 0)
    case atStart => rfl
    case round =>
      subst hrel
      go_wp2
      go_ret
      exact ⟨rfl, rfl⟩
  | cons y r =>
    obtain ⟨b, off, rfl, _, hcell⟩ := hA (by simp [intsV])
    generalize hq : y :: r = q at *
    have hlen : 0 < q.length := by rw [← hq]; simp
    clear hq
    have HC := hid hcell
    clear hcell hl
    go_enter Try.func35, Try.ntmps35
    go_wp2
    go_loop [5, 8] (fun _ i => ∃ k : Nat, k ≤ q.length ∧ i = .int .i64 k ∧ ∀ j < k, q[j]? ≠ some x) (fun _ i => q.length - (intOf i).toNat)
    case atStart => exact ⟨0, Nat.zero_le _, rfl, fun j hj => absurd hj (by omega)⟩
    case round =>
      obtain ⟨k, hk, rfl, hn⟩ := hrel
      have HN := hid hn
      clear hn
      by_cases hlt : k < q.length
      · have hc := HC.out k (.int .i64 q[k]) (by simp [intsV, hlt])
        by_cases hx : x = q[k]
        · have hb : (x == q[k]) = true := by simp [hx]
          have HX := hid hx
          clear hx
          go_wp2
          go_ret
          exact ⟨by rw [idx_lo q x k hlt HN.out (by rw [HX.out]; simp)]; rfl, rfl⟩
        · have hb : (x == q[k]) = false := by simp [hx]
          have HX := hid hx
          clear hx
          go_wp2
          go_round
          case rel => exact ⟨k + 1, by omega, by go_num, fun j hj => by
            by_cases hjk : j = k
            · subst hjk; rw [List.getElem?_eq_getElem hlt]; exact fun e => HX.out (Option.some.inj e).symm
            · exact HN.out j (by omega)⟩
          case measure => simp [intOf]; omega
      · go_wp2
        go_ret
        exact ⟨by rw [idx_none q x fun j hj => HN.out j (by omega)]; rfl, rfl⟩

theorem u8_ne (a b : UInt8) : ((a.toNat : Int) != (b.toNat : Int)) = (a != b) := by
  rw [Bool.eq_iff_iff]
  simp only [bne_iff_ne, ne_eq, Int.natCast_inj, UInt8.toNat_inj]

set_option maxHeartbeats 1000000 in
theorem equal_bytes (S T : Nat → Prop) (w : World) (v u : Value) (l m : List UInt8) (h : Rd S w v (bytesV l)) (h' : Rd T w u (bytesV m)) :
    Calls Try.prog 17 #[v, u] w fun e w' => e = .returned (.bool (l == m)) ∧ ∃ n, w' = w.drewN n := by
  obtain ⟨A, c, rfl, hc, hmx, hA⟩ := h
  obtain ⟨B, d, rfl, hd, hmy, hB⟩ := h'
  rw [bytesV_length] at hc hd ⊢
  rw [bytesV_length]
  unfold maxLen at hmx hmy
  by_cases hlen : l.length = m.length
  · cases l with
    | nil =>
      have : m = [] := List.eq_nil_of_length_eq_zero hlen.symm
      subst this
      clear hlen
      go_enter Try.func17, Try.ntmps17
      go_wp2
      go_loop [5, 13] (fun _ i => i = .int .i64 0) (fun _ _ => 0)
      case atStart => rfl
      case round =>
        subst hrel
        go_wp2
        go_ret
        exact ⟨rfl, 0, rfl⟩
    | cons y r =>
      obtain ⟨b, off, rfl, _, hcell⟩ := hA (by simp [bytesV])
      obtain ⟨b', off', rfl, _, hcell'⟩ := hB (by cases m with | nil => simp at hlen | cons _ _ => simp [bytesV])
      generalize hq : y :: r = q at *
      clear hq hA hB
      have HC := hid hcell
      have HC' := hid hcell'
      have HL := hid hlen
      have hne : ((q.length : Int) != (m.length : Int)) = false := by rw [hlen]; simp
      clear hcell hcell' hlen
      go_enter Try.func17, Try.ntmps17
      go_wp2
      go_loopw [5, 13] (fun _ i wr => ∃ k n : Nat, k ≤ q.length ∧ i = .int .i64 k ∧ q.take k = m.take k ∧ wr = w.drewN n) (fun _ i _ => q.length - (intOf i).toNat)
      case atStart => exact ⟨0, 0, Nat.zero_le _, rfl, by simp, rfl⟩
      case round =>
        obtain ⟨k, n, hk, rfl, ht, rfl⟩ := hrel
        have HT := hid ht
        clear ht
        by_cases hlt : k < q.length
        · have hltm : k < m.length := HL.out ▸ hlt
          have c1 := HC.out k (.int .u8 q[k].toNat) (by simp [bytesV, hlt])
          have c2 := HC'.out k (.int .u8 m[k].toNat) (by simp [bytesV, hltm])
          by_cases hx : q[k] = m[k]
          · have hb : ((q[k].toNat : Int) != (m[k].toNat : Int)) = false := by rw [u8_ne, hx]; simp
            have HX := hid hx
            clear hx
            go_wp2
            go_quiet (fail)
            go_wp2
            go_roundw
            case rel => exact ⟨k + 1, _, by omega, by go_num, by rw [List.take_succ_eq_append_getElem hlt, List.take_succ_eq_append_getElem hltm, HT.out, HX.out], rfl⟩
            case measure => simp [intOf]; omega
          · have hb : ((q[k].toNat : Int) != (m[k].toNat : Int)) = true := by rw [u8_ne]; simpa using hx
            have HX := hid hx
            clear hx
            go_wp2
            go_quiet (fail)
            go_wp2
            go_ret
            refine ⟨?_, n + nq, by rw [World.drewN_drewN]⟩
            have : (q == m) = false := by
              rw [beq_eq_false_iff_ne]
              rintro rfl
              exact HX.out rfl
            rw [this]; rfl
        · go_wp2
          go_ret
          refine ⟨?_, _, rfl⟩
          have : (q == m) = true := by
            rw [beq_iff_eq]
            have := HT.out
            have hl := HL.out
            rwa [List.take_of_length_le (by omega), List.take_of_length_le (by omega)] at this
          rw [this]; rfl
  · have hne : ((l.length : Int) != (m.length : Int)) = true := by simp; omega
    have hfin : (l == m) = false := by
      rw [beq_eq_false_iff_ne]
      rintro rfl
      exact hlen rfl
    have HF := hid hfin
    clear hlen hfin
    go_enter Try.func17, Try.ntmps17
    go_wp2
    go_ret
    exact ⟨by rw [HF.out]; rfl, 0, rfl⟩

theorem Try.info5 : (Try.prog.info? 5).map (fun i => (i.zero, i.size, i.bytes)) = some (some (.int .u8 0), 1, 1) := by kernel_rfl

set_option maxHeartbeats 1000000 in
/-- slices.Clone of bytes: a row of its own. -/
theorem clone_bytes (S : Nat → Prop) (w : World) (v : Value) (l : List UInt8) (h : Rd S w v (bytesV l)) (hl : l.length ≤ 70368744177664) :
    Calls Try.prog 32 #[v] w fun e w' => ∃ v' F, e = .returned v' ∧ Own 5 1 v' l.length (bytesV l) w' F ∧ Upd w w' [] F := by
  obtain ⟨A, c, hv, hc, hmx, hA⟩ := id h
  rw [bytesV_length] at hc hv
  subst hv
  have eN := fun (w : World) (a : Option Addr) (n c : Nat) => Lib.run_eql_slice_nil (P := Try.prog) w 30 5 a n c 0 0 Try.underlying30
  cases A with
  | none =>
    have : l = [] := by
      cases l with
      | nil => rfl
      | cons _ _ => obtain ⟨_, _, h, _⟩ := hA (by simp [bytesV]); cases h
    subst this
    clear h hA
    go_enter Try.func32, Try.ntmps32
    go_wp2
    go_ret
    exact ⟨_, [], rfl, Own.nil _ _ _, Upd.refl _ (by simp)⟩
  | some ad =>
    obtain ⟨i0, hi, hz0, hz1, hz2⟩ := info_parts Try.info5
    have HH := hid h
    have HI := hid (And.intro hi (And.intro hz0 (And.intro hz1 hz2)))
    have HL := hid hl
    clear h hA hi hz0 hz1 hz2 hl hmx
    go_enter Try.func32, Try.ntmps32
    have HO := hid (Own.made 5 w)
    go_wp2_with (at_builtin; refine wpList_append_rd _ rfl _ _ 30 rfl 5 i0 (.int .u8 0) 1 Try.underlying30 HI.out.1 HI.out.2.1 HI.out.2.2.1 HI.out.2.2.2 rfl _ 0 [] _ rfl HO.out S (.slice (some ad) l.length c) (bytesV l) rfl (HH.out.alloc _) (bytesV_one l) ?c1 ?c2 ?c3)
    case c1 => have := HL.out; rw [bytesV_length]; omega
    case c2 => have := HL.out; rw [bytesV_length]; unfold maxLen; omega
    case c3 =>
      intro v' w1 F' hown hu
      have HP := hid (And.intro hown hu)
      clear hown hu
      go_wp2
      go_ret
      obtain ⟨hown, hu⟩ := HP.out
      refine ⟨_, F', rfl, by simpa [bytesV_length] using hown, Upd.new ((Mod.refl _ w).alloc _) hu (by simp)⟩
end Go.Proofs.Ytcdeknbbeghljaa
