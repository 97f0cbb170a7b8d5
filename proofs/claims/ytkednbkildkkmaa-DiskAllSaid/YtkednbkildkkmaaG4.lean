/- disk: bytes.Equal, slices.Equal of texts; the laws' 'same'. -/
import Derived.Test.YtkednbkildkkmaaS4
import Derived.Test.YtkednbkildkkmaaP4
import Derived.Lib.SlBytesConst
namespace Go.Proofs.Ytkednbkildkkmaa
open Go.RowKit
open Disk

theorem bequal_any (S T : Nat → Prop) (w : World) (v u : Value) (l m : Bytes) (hv : Rd S w v (bytesV l)) (hu : Rd T w u (bytesV m)) :
    Calls Try.prog 23 #[v, u] w fun e w' => e = .returned (.bool (l == m)) ∧ w = w' := by
  have h1 := run_bytes_string (P := Try.prog) (dst := 9) Try.underlying31 Try.underlying5 Try.underlying9 hv
  have h2 := run_bytes_string (P := Try.prog) (dst := 9) Try.underlying31 Try.underlying5 Try.underlying9 hu
  clear hv hu
  go_enter Try.func23, Try.ntmps23
  go_wp2
  go_ret
  exact ⟨rfl, rfl⟩

set_option maxRecDepth 100000 in
set_option maxHeartbeats 1000000 in
theorem sequal_any (S T : Nat → Prop) (w : World) (v u : Value) (l : List Bytes) (hv : Rd S w v (l.map sv)) (hu : Rd T w u (l.map sv)) :
    Calls Try.prog 47 #[v, u] w fun e w' => e = .returned (.bool true) ∧ Mod (fun _ => False) w w' := by
  obtain ⟨A, c, rfl, a1, a2, hA⟩ := id hv
  obtain ⟨C, e, rfl, b1, b2, hC⟩ := id hu
  rw [List.length_map] at a1 b1 ⊢
  unfold maxLen at a2 b2
  have HA := hid (And.intro hA hC)
  clear hv hu hA hC
  go_enter Try.func47, Try.ntmps47
  go_wp2_with fail
  go_loopw [13] (fun iv wr => ∃ k : Nat, k ≤ l.length ∧ iv = .int .i64 k ∧ ∃ n, wr = w.drewN n) (fun iv _ => l.length - (intOf iv).toNat)
  case atStart => exact ⟨0, Nat.zero_le _, rfl, 0, rfl⟩
  case round =>
    obtain ⟨k, hk, rfl, n, rfl⟩ := hrel
    by_cases hlt : k < l.length
    · have hne : l.map sv ≠ [] := by intro h; have := congrArg List.length h; simp at this; rw [this] at hlt; simp at hlt
      obtain ⟨b, off, rfl, -, hc1⟩ := HA.out.1 hne
      obtain ⟨b', off', rfl, -, hc2⟩ := HA.out.2 hne
      have hg : (l.map sv)[k]? = some (sv l[k]) := by rw [List.getElem?_map, List.getElem?_eq_getElem hlt]; rfl
      have d1 : w.cell? ⟨b, off + k, none⟩ = some (.string ⟨l[k].toArray⟩) := hc1 k _ hg
      have d2 : w.cell? ⟨b', off' + k, none⟩ = some (.string ⟨l[k].toArray⟩) := hc2 k _ hg
      have h0 : (0 : Int) ≤ (k : Int) := by omega
      have h1 : (k : Int) < (l.length : Int) := by omega
      generalize l[k] = x at *
      clear hc1 hc2 hg hne
      go_wp2_with fail
      go_quiet (fail)
      go_wp2_with fail
      exact ⟨⟨k + 1, by omega, by simp, _, rfl⟩, by show l.length - ((k : Int) + 1).toNat < l.length - (k : Int).toNat; omega⟩
    · go_wp2_with fail
      go_ret
      exact ⟨rfl, (Mod.refl _ w).drewN n⟩

/-- one text of a row that is held. -/
theorem text_at {S : Nat → Prop} {w : World} {A : Option Addr} {n c : Nat} {l : List Bytes} (h : Rd S w (.slice A n c) (l.map sv)) {k : Nat} (hk : k < l.length) : ∃ b off, A = some ⟨b, off, none⟩ ∧ w.cell? ⟨b, off + k, none⟩ = some (sv l[k]) := by
  obtain ⟨A', c', hv, -, -, hA⟩ := h
  injection hv with e1 _ _
  subst e1
  have hg : (l.map sv)[k]? = some (sv l[k]) := by rw [List.getElem?_map, List.getElem?_eq_getElem hk]; rfl
  obtain ⟨b, off, ha, -, hc⟩ := hA (by intro e; rw [e] at hg; simp at hg)
  exact ⟨b, off, ha, hc k _ hg⟩

def rTwo (p q : Nat) (d e : Dk) (B : List Res) : List Res := rDisk p d :: rDisk q e :: B
set_option maxRecDepth 100000 in
set_option maxHeartbeats 2000000 in
theorem same_held {w0 w : World} {B : List Res} {p q : Nat} {d e : Dk} (h : Held w0 w (rDisk p d :: rDisk q e :: B)) (hd : d.Ok) (he : e.Ok) (hal : Disk.Alike d e) (hsl : d.seen.length ≤ 1000000) :
    Calls Try.prog 27 #[.pointer (some ⟨p, 0, none⟩), .pointer (some ⟨q, 0, none⟩)] w fun r w' => r = .returned (.bool true) ∧ Held w0 w' (rDisk p d :: rDisk q e :: B) := by
  have hle : e.seen.length ≤ 1000000 := by rw [← (hal.perm hd he).length_eq]; exact hsl
  have hll : d.list = e.list := list_of_alike hd he hal mergeSort_of_perm
  have HLEN := hid (list_length d)
  have C1 := hid (list_held h hd hsl)
  have HK := hid (And.intro hd (And.intro he (And.intro hal (And.intro hle hll))))
  clear h hd he hal hle hll
  go_enter Try.func27, Try.ntmps27
  go_wp2_with fail
  refine C1.out.mono ?_
  rintro r w1 ⟨v, rfl, g1⟩
  have C2 := hid (list_held (g1.pull2) HK.out.2.1 HK.out.2.2.2.1)
  rw [← HK.out.2.2.2.2] at C2
  obtain ⟨A, c, rfl, a1, a2⟩ := g1.texts_form
  clear g1 C1
  go_wp2_with fail
  refine C2.out.mono ?_
  rintro r w2 ⟨u, rfl, g2⟩
  -- u, disk q, v, disk p
  have C3 := hid (sequal_any (fun _ => True) (fun _ => True) w2 (.slice A d.list.length c) u d.list (Held.texts (g2.pull2)) g2.texts)
  obtain ⟨C, cu, rfl, u1, u2⟩ := g2.texts_form
  have G2 := hid (show Held w0 w2 (rTexts (.slice A d.list.length c) d.list :: rDisk p d :: rDisk q e :: B) from (g2.drop0).pull2.pull2)
  clear g2 C2
  go_wp2_with fail
  refine C3.out.mono ?_
  rintro r w3 ⟨rfl, hm⟩
  have G3 := hid (G2.out.step hm)
  clear hm C3 G2 u1 u2
  have hnn : d.list.length ≤ 1000000 := by rw [HLEN.out]; exact hsl
  generalize hnl : d.list.length = nl at *
  have HNL := hid hnl
  clear hnl
  go_wp2_with fail
  go_loopw [21] (fun iv wr => ∃ k : Nat, k ≤ nl ∧ iv = .int .i64 k ∧ Held w0 wr (rTexts (.slice A nl c) d.list :: rDisk p d :: rDisk q e :: B)) (fun iv _ => nl - (intOf iv).toNat)
  case atStart => exact ⟨0, Nat.zero_le _, rfl, G3.out⟩
  case round =>
    obtain ⟨k, hk, rfl, hh⟩ := hrel
    by_cases hlt : k < nl
    · have hlt' : k < d.list.length := by rw [HNL.out]; exact hlt
      obtain ⟨b, off, rfl, hcell⟩ := text_at hh.texts hlt'
      obtain ⟨x, hx⟩ := list_mem HK.out.1 (List.getElem_mem hlt')
      have hnl2 : (d.list[k]).length ≤ 9223372036854775807 := by have := may_len (HK.out.1.seenLe _ _ hx).1; omega
      have r1 : d.read d.list[k] = (x, 0) := by rw [HK.out.1.read_of, hx]
      have r2 : e.read d.list[k] = (x, 0) := by rw [← read_alike HK.out.1 HK.out.2.1 (HK.out.2.2.1 _)]; exact r1
      have R1 := hid (read_held hh.pull1 HK.out.1 d.list[k] hnl2)
      rw [r1] at R1
      have R2 := hid r2
      generalize d.list[k] = n at *
      have HN := hid hnl2
      clear hh hx r1 r2 hnl2
      unfold sv at hcell R1
      go_wp2_with fail
      refine R1.out.mono ?_
      rintro r w4 ⟨v1, rfl, g4⟩
      -- bytes, disk p, texts, disk q
      have S2 := hid (read_held (g4.pull3) HK.out.2.1 n HN.out)
      rw [R2.out] at S2
      unfold sv at S2
      clear g4 R1
      go_wp2_with fail
      refine S2.out.mono ?_
      rintro r w5 ⟨v2, rfl, g5⟩
      -- bytes2, disk q, bytes1, disk p, texts
      have E := hid (bequal_any (fun _ => True) (fun _ => True) w5 v1 v2 x x (Held.bytes (l1 := []) (g5.pull2)) (Held.bytes (l1 := []) g5))
      have hxx : (x == x) = true := by simp
      rw [hxx] at E
      have G5 := hid (show Held w0 w5 (rTexts (.slice (some ⟨b, off, none⟩) nl c) d.list :: rDisk p d :: rDisk q e :: B) from (((g5.drop0).pull1).drop0).pull1.pull2)
      clear g5 S2 hxx
      go_wp2_with fail
      refine E.out.mono ?_
      rintro r w6 ⟨rfl, rfl⟩
      clear E
      go_wp2_with fail
      exact ⟨⟨k + 1, by omega, by simp, G5.out⟩, by show nl - ((k : Int) + 1).toNat < nl - (k : Int).toNat; omega⟩
    · have HH := hid hh
      clear hh
      go_wp2_with fail
      go_ret
      exact ⟨rfl, HH.out.drop0⟩
end Go.Proofs.Ytkednbkildkkmaa
