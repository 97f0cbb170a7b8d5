/- slices.Grow from nil, slices.Concat, of bytes. -/
import Derived.Test.YtcdeknbbeghljaaL1
import Derived.Lib.AppendZeros
namespace Go.Proofs.Ytcdeknbbeghljaa
open Go.RowKit

theorem own_cut (e : TypeId) (w : World) (cur : Array Value) (cap : Nat) (hc : cap ≤ maxLen) (hs : cur.size = cap) :
    Own e 1 (.slice (some ⟨w.heap.size, 0, none⟩) 0 cap) 0 [] (w.alloc (.cells cur e)) [w.heap.size] :=
  ⟨World.ownsRow_made w cur cap (Nat.zero_le _) hc (by simpa using hs), rfl⟩

set_option maxRecDepth 100000 in
set_option maxHeartbeats 1000000 in
theorem grow_nil (w : World) (n : Nat) (hn : n ≤ 70368744177664) :
    Calls Try.prog 34 #[.slice none 0 0, .int .i64 n] w fun e w' => ∃ v' F, e = .returned v' ∧ Own 5 1 v' 0 [] w' F ∧ Upd w w' [] F := by
  by_cases h0 : n = 0
  · subst h0
    go_enter Try.func34, Try.ntmps34
    go_wp2
    go_ret
    exact ⟨_, [], rfl, Own.nil _ _ _, Upd.refl _ (by simp)⟩
  · have hpos : 0 < n := by omega
    obtain ⟨i0, hi, hz0, hz1, hz2⟩ := info_parts Try.info5
    have hr := fun ty => Lib.run_append_nil_zeros (P := Try.prog) w 30 3 ty 5 i0 (.int .u8 0) .i64 .i64 Try.underlying30 Try.underlying3 hi hz0 n hpos (by omega) (by omega) (by rw [hz2]; omega)
    have hge := grownCap_ge w n 0 5
    have hle := grownCap_le_maxLen w n 0 5 (by unfold maxLen; omega)
    have HO := hid (own_cut 5 w.drew (Builtin.zeroCells (Value.int .u8 0).cells n ++ Builtin.zeroCells (Value.int .u8 0).cells (grownCap w n 0 5 - n)) (grownCap w n 0 5) hle (by simp only [Array.size_append, size_zeroCells]; simp [Value.cells]; omega))
    have HR := hid hr
    unfold maxLen at hle
    generalize grownCap w n 0 5 = cap at *
    generalize Builtin.zeroCells (Value.int .u8 0).cells n ++ Builtin.zeroCells (Value.int .u8 0).cells (cap - n) = cells at *
    clear hr hi hz0 hz1 hz2 h0
    go_enter Try.func34, Try.ntmps34
    go_wp2_with (at_builtin; refine Lib.wpList_append_run _ rfl _ _ 30 3 rfl (.slice none 0 0) (.int .i64 n) rfl rfl _ _ (HR.out _) ?_)
    go_wp2
    go_ret
    exact ⟨_, [w.heap.size], rfl, HO.out, ((Mod.refl _ w).drew).alloc _, by simp, fun b hb => .inr (by simp at hb; omega)⟩

/-- each slice reads as its list. -/
def RdAll (S : Nat → Prop) (w : World) : List Value → List (List UInt8) → Prop
  | [], [] => True
  | v :: vs, l :: ls => Rd S w v (bytesV l) ∧ RdAll S w vs ls
  | _, _ => False

theorem RdAll.keep {S : Nat → Prop} {w w' : World} : ∀ {vs : List Value} {ls : List (List UInt8)}, RdAll S w vs ls → (∀ b, S b → b < w.heap.size → w'.heap[b]? = w.heap[b]?) → RdAll S w' vs ls
  | [], [], _, _ => trivial
  | _ :: _, _ :: _, h, hk => ⟨h.1.keep hk, h.2.keep hk⟩
  | [], _ :: _, h, _ => h.elim
  | _ :: _, [], h, _ => h.elim
theorem RdAll.length {S : Nat → Prop} {w : World} : ∀ {vs : List Value} {ls : List (List UInt8)}, RdAll S w vs ls → vs.length = ls.length
  | [], [], _ => rfl
  | _ :: _, _ :: _, h => congrArg (· + 1) h.2.length
  | [], _ :: _, h => h.elim
  | _ :: _, [], h => h.elim
theorem RdAll.get {S : Nat → Prop} {w : World} : ∀ {vs : List Value} {ls : List (List UInt8)}, RdAll S w vs ls → ∀ (k : Nat) (hk : k < ls.length), ∃ v, vs[k]? = some v ∧ Rd S w v (bytesV ls[k])
  | [], [], _, _, hk => absurd hk (by simp)
  | v :: vs, l :: ls, h, 0, _ => ⟨v, rfl, h.1⟩
  | v :: vs, l :: ls, h, k + 1, hk => by simpa using h.2.get k (by simpa using hk)
  | [], _ :: _, h, _, _ => h.elim
  | _ :: _, [], h, _, _ => h.elim

theorem flat_succ (ls : List (List UInt8)) (k : Nat) (hk : k < ls.length) : (ls.take (k + 1)).flatten = (ls.take k).flatten ++ ls[k] := by
  rw [List.take_succ_eq_append_getElem hk, List.flatten_append, List.flatten_singleton]
/-- how many bytes the first k lists have. -/
def flen (ls : List (List UInt8)) (k : Nat) : Nat := (ls.take k).flatten.length
theorem flen_zero (ls : List (List UInt8)) : flen ls 0 = 0 := rfl
theorem flen_all (ls : List (List UInt8)) : flen ls ls.length = ls.flatten.length := by unfold flen; rw [List.take_length]
theorem flen_succ (ls : List (List UInt8)) (k : Nat) (hk : k < ls.length) : flen ls (k + 1) = flen ls k + ls[k].length := by
  unfold flen; rw [flat_succ ls k hk, List.length_append]
theorem flen_le (ls : List (List UInt8)) (k : Nat) : flen ls k ≤ ls.flatten.length := by
  have h : ls.flatten.length = flen ls k + (ls.drop k).flatten.length := by
    unfold flen
    rw [← List.length_append, ← List.flatten_append, List.take_append_drop]
  omega

set_option maxRecDepth 100000 in
set_option maxHeartbeats 2000000 in
theorem concat_bytes (S T : Nat → Prop) (w : World) (v : Value) (vs : List Value) (ls : List (List UInt8)) (h : Rd T w v vs) (ha : RdAll S w vs ls) (hl : ls.flatten.length ≤ 70368744177664) (hn : ls.length ≤ 1000) :
    Calls Try.prog 18 #[v] w fun e w' => ∃ v' F, e = .returned v' ∧ Own 5 1 v' ls.flatten.length (bytesV ls.flatten) w' F ∧ Upd w w' [] F := by
  have hlen := ha.length
  obtain ⟨A, c, rfl, hc, hmx, hA⟩ := h
  rw [hlen] at hc ⊢
  unfold maxLen at hmx
  have HA := hid ha
  have HC := hid hA
  clear hA ha hlen
  have hcell : ∀ k, (hk : k < ls.length) → ∃ b off vk, A = some ⟨b, off, none⟩ ∧ w.cell? ⟨b, off + k, none⟩ = some vk ∧ Rd S w vk (bytesV ls[k]) := by
    intro k hk
    obtain ⟨vk, hv, hr⟩ := HA.out.get k hk
    obtain ⟨b, off, rfl, _, hcc⟩ := HC.out (by intro e; rw [e] at hv; simp at hv)
    exact ⟨b, off, vk, rfl, hcc k vk hv, hr⟩
  have HX := hid hcell
  clear hcell
  obtain ⟨i0, hi, hz0, hz1, hz2⟩ := info_parts Try.info5
  have HI := hid (And.intro hi (And.intro hz0 (And.intro hz1 hz2)))
  clear hi hz0 hz1 hz2
  obtain ⟨N, hN⟩ : ∃ N, N = ls.flatten.length := ⟨_, rfl⟩
  have HN := hid hN
  rw [← hN] at hl
  clear hN
  go_enter Try.func18, Try.ntmps18
  go_wp2
  go_loop [3, 5, 11] (fun z _ i => ∃ k : Nat, k ≤ ls.length ∧ i = .int .i64 k ∧ z = .int .i64 (flen ls k : Nat)) (fun _ _ i => ls.length - (intOf i).toNat)
  case atStart => exact ⟨0, Nat.zero_le _, rfl, rfl⟩
  case round =>
    obtain ⟨k, hk, rfl, rfl⟩ := hrel
    have hfl := flen_le ls k
    rw [← HN.out] at hfl
    by_cases hlt : k < ls.length
    · obtain ⟨b, off, vk, rfl, hck, hr⟩ := HX.out k hlt
      obtain ⟨A', c', rfl, hc', _, _⟩ := hr
      rw [bytesV_length] at hck hc'
      have hfl' := flen_le ls (k + 1)
      rw [flen_succ ls k hlt, ← HN.out] at hfl'
      go_wp2
      go_round
      case rel => exact ⟨k + 1, by omega, by go_num, by rw [flen_succ ls k hlt]; go_num⟩
      case measure => simp [intOf]; omega
    · have hkk : k = ls.length := by omega
      have e1 : flen ls k = N := by rw [hkk, flen_all, HN.out]
      rw [e1]
      clear e1 hfl
      have HG := hid (grow_nil w N hl)
      go_wp2_with (first
        | (go_at_call 34; refine HG.out.mono ?_; rintro e w1 ⟨v1, F1, rfl, ho, hu⟩))
      have HO := hid (And.intro ho hu)
      clear ho hu hkk hlt
      go_loopw [6, 8, 27] (fun z _ i wr => ∃ (k : Nat) (F : List Nat), k ≤ ls.length ∧ i = .int .i64 k ∧ Own 5 1 z (flen ls k) (bytesV (ls.take k).flatten) wr F ∧ Upd w wr [] F) (fun _ _ i _ => ls.length - (intOf i).toNat)
      case atStart => exact ⟨0, F1, Nat.zero_le _, rfl, HO.out.1, HO.out.2⟩
      case round =>
        obtain ⟨k, F, hk, rfl, ho, hu⟩ := hrel
        have hfl := flen_le ls k
        rw [← HN.out] at hfl
        have HO2 := hid (And.intro ho hu)
        clear ho hu
        by_cases hlt : k < ls.length
        · obtain ⟨b, off, vk, rfl, hck, hr⟩ := HX.out k hlt
          have hck' := HO2.out.2.mod.cell hck (by simp)
          have hr' := hr.keep (w' := wr) (fun b _ hb => HO2.out.2.mod.block b hb (by simp))
          have hfl' := flen_le ls (k + 1)
          rw [flen_succ ls k hlt, ← HN.out] at hfl'
          have HR := hid hr'
          clear hr hr' hck
          go_wp2_with (at_builtin; refine wpList_append_rd _ rfl _ _ 30 rfl 5 i0 (.int .u8 0) 1 Try.underlying30 HI.out.1 HI.out.2.1 HI.out.2.2.1 HI.out.2.2.2 rfl _ (flen ls k) (bytesV (ls.take k).flatten) F rfl HO2.out.1 S vk (bytesV ls[k]) rfl HR.out (bytesV_one _) ?c1 ?c2 ?c3)
          case c1 => rw [bytesV_length]; omega
          case c2 => rw [bytesV_length]; unfold maxLen; omega
          case c3 =>
            intro v' w' F' hown hu
            have HP := hid (And.intro hown hu)
            clear hown hu
            go_wp2
            go_roundw
            case rel => exact ⟨k + 1, F', by omega, by go_num, by
              have h := HP.out.1
              rw [bytesV_length, ← flen_succ ls k hlt, ← bytesV_append, ← flat_succ ls k hlt] at h
              exact h, HO2.out.2.trans HP.out.2⟩
            case measure => simp [intOf]; omega
        · have hkk : k = ls.length := by omega
          go_wp2
          go_ret
          have h := HO2.out
          rw [hkk, List.take_length, flen_all] at h
          exact ⟨_, F, rfl, h.1, h.2⟩
end Go.Proofs.Ytcdeknbbeghljaa
