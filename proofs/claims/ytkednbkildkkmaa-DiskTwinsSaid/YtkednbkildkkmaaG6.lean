/- disk: 'short' and 'made', told exactly. -/
import Derived.Test.YtkednbkildkkmaaH5
namespace Go.Proofs.Ytkednbkildkkmaa
open Go.RowKit
open Disk

def sumMin (l : List Do) : Nat := (l.map fun d => min d.b.length 32769).sum
theorem sumMin_succ {l : List Do} {k : Nat} (h : k < l.length) : sumMin (l.take (k + 1)) = sumMin (l.take k) + min l[k].b.length 32769 := by
  unfold sumMin
  rw [List.take_succ_eq_append_getElem h, List.map_append, List.sum_append]
  simp
/-- may these calls be gone through? -/
def shortB (l : List Do) : Bool := decide (l.length ≤ 120) && decide (sumMin l ≤ 32768)
theorem le_sumMin {l : List Do} {d : Do} (h : d ∈ l) : min d.b.length 32769 ≤ sumMin l := by
  induction l with
  | nil => cases h
  | cons x l ih =>
    have e : sumMin (x :: l) = min x.b.length 32769 + sumMin l := by simp [sumMin]
    rw [e]
    rcases List.mem_cons.1 h with rfl | h
    · omega
    · have := ih h
      omega
theorem shortB_bound {l : List Do} (h : shortB l = true) : l.length ≤ 120 ∧ ∀ d ∈ l, d.b.length ≤ 32768 := by
  unfold shortB at h
  simp only [Bool.and_eq_true, decide_eq_true_eq] at h
  refine ⟨h.1, fun d hd => ?_⟩
  have := le_sumMin hd
  omega

set_option maxRecDepth 100000 in
set_option maxHeartbeats 2000000 in
theorem short_exact (B : Nat) (w : World) (v : Value) (ds : List Do) (h : Dos B w v ds) :
    Calls Try.prog 13 #[v] w fun e w' => e = .returned (.bool (shortB ds)) ∧ w = w' := by
  obtain ⟨A, c, rfl, hc, hm⟩ := h.form
  have H := hid h
  clear h
  go_enter Try.func13, Try.ntmps13
  go_wp2
  go_loop [3, 4] (fun z i => ∃ k s : Nat, k ≤ ds.length ∧ k ≤ 121 ∧ i = .int .i64 k ∧ z = .int .i64 s ∧ s ≤ k * 32769 ∧ sumMin (ds.take k) = s) (fun _ i => ds.length - (intOf i).toNat)
  case atStart => exact ⟨0, 0, Nat.zero_le _, Nat.zero_le _, rfl, rfl, Nat.zero_le _, rfl⟩
  case round =>
    obtain ⟨k, s, hk, hk2, rfl, rfl, hs, hall⟩ := hrel
    have HA := hid hall
    clear hall
    by_cases hlt : k < ds.length
    · by_cases hle : k ≤ 120
      · obtain ⟨b, off, bA, bc, kA, kc, rfl, _, c0, c1, c2, c3, c4, hd⟩ := H.out.at hlt
        obtain ⟨_, _, hv, hcb, hcm, _⟩ := hd.b
        injection hv with _ _ e3
        rw [bytesV_length] at hcb
        rw [← e3] at hcm hcb
        unfold maxLen at hcm
        have HZ := hid (sumMin_succ (l := ds) hlt)
        rw [HA.out] at HZ
        clear e3 c0 c1 c3 c4 hd
        by_cases hbig : ds[k].b.length ≤ 32769
        · go_wp2
          all_goals
            go_round
            case rel => exact ⟨k + 1, s + ds[k].b.length, by omega, by omega, by go_num, by go_num, by omega, by rw [HZ.out]; omega⟩
            case measure => simp [intOf]; omega
        · go_wp2
          all_goals
            go_round
            case rel => exact ⟨k + 1, s + 32769, by omega, by omega, by go_num, by go_num, by omega, by rw [HZ.out]; omega⟩
            case measure => simp [intOf]; omega
      · have hsb : shortB ds = false := by
          unfold shortB
          have : ¬ ds.length ≤ 120 := by omega
          simp [this]
        have hgt : (120 : Int) < (ds.length : Int) := by omega
        have HSB := hid hsb
        clear hsb
        go_wp2
        go_ret
        rw [HSB.out]
        exact ⟨rfl, rfl⟩
    · have hf : ds.take k = ds := List.take_of_length_le (by omega)
      have HF := hid (show sumMin ds = s by rw [← HA.out, hf])
      clear hf
      by_cases hle : ds.length ≤ 120
      · by_cases hs8 : s ≤ 32768
        · have hsb : shortB ds = true := by
            unfold shortB
            rw [HF.out]
            simp [hle, hs8]
          have HSB := hid hsb
          clear hsb
          go_wp2
          all_goals
            go_ret
            rw [HSB.out]
            exact ⟨by first | rfl | (simp; omega), rfl⟩
        · have hsb : shortB ds = false := by
            unfold shortB
            rw [HF.out]
            simp [hs8]
          have HSB := hid hsb
          clear hsb
          go_wp2
          all_goals
            go_ret
            rw [HSB.out]
            exact ⟨by first | rfl | (simp; omega), rfl⟩
      · have hsb : shortB ds = false := by
          unfold shortB
          simp [hle]
        have HSB := hid hsb
        clear hsb
        go_wp2
        all_goals
          go_ret
          rw [HSB.out]
          exact ⟨by first | rfl | (simp; omega), rfl⟩
set_option maxRecDepth 100000 in
set_option maxHeartbeats 2000000 in
theorem made_exact {w0 w : World} {B : List Res} (h : Held w0 w B) (room : Int) {n : Nat} (hn : wrap64 ((IntKind.u64.wrap room).tmod 1048576) = n) (hnl : n < 1048576) (v : Value) (ds : List Do) (hd : Dos w0.heap.size w0 v ds) :
    Calls Try.prog 12 #[.int .i64 room, v] w fun e w' => ∃ p, e = .returned (.tuple #[.pointer (some ⟨p, 0, none⟩), .bool (shortB ds)]) ∧ Held w0 w' (rDisk p (diskOf n (if shortB ds then ds else [])) :: B) := by
  obtain ⟨A, c, rfl, hc, hm⟩ := hd.form
  cases hr : shortB ds with
  | false =>
    have HN := hid (new_held h n (by omega))
    have HD := hid hd
    have HB := hid (show Held w0 w B from h)
    have HO := hid (And.intro hn hnl)
    clear h hd
    go_enter Try.func12, Try.ntmps12
    go_wp2_with fail
    clear hn
    refine HN.out.mono ?_
    rintro e w1 ⟨p, rfl, g1⟩
    have HS := hid (short_exact w0.heap.size w1 _ ds (g1.dos HD.out))
    have G1 := hid g1
    rw [hr] at HS
    clear g1 HN
    go_wp2_with fail
    refine HS.out.mono ?_
    rintro e w2 ⟨rfl, rfl⟩
    clear HS
    go_wp2_with fail
    go_ret2
    exact ⟨p, rfl, G1.out⟩
  | true =>
    have HN := hid (new_held h n (by omega))
    have HD := hid hd
    have HB := hid (show Held w0 w B from h)
    have HO := hid (And.intro hn hnl)
    clear h hd
    go_enter Try.func12, Try.ntmps12
    go_wp2_with fail
    clear hn
    refine HN.out.mono ?_
    rintro e w1 ⟨p, rfl, g1⟩
    have HS := hid (short_exact w0.heap.size w1 _ ds (g1.dos HD.out))
    have G1 := hid g1
    rw [hr] at HS
    clear g1 HN
    go_wp2_with fail
    refine HS.out.mono ?_
    rintro e w2 ⟨rfl, rfl⟩
    obtain ⟨hlen, hbytes⟩ := shortB_bound hr
    have HR := hid hbytes
    clear hbytes HS
    go_wp2_with fail
    go_loopw [28] (fun iv wr => ∃ k : Nat, k ≤ ds.length ∧ iv = .int .i64 k ∧ Held w0 wr (rDisk p (diskOf n (ds.take k)) :: B)) (fun iv _ => ds.length - (intOf iv).toNat)
    case atStart => exact ⟨0, Nat.zero_le _, rfl, G1.out⟩
    case round =>
      obtain ⟨k, hk, rfl, hh⟩ := hrel
      by_cases hlt : k < ds.length
      · obtain ⟨b, off, bA, bc, kA, kc, rfl, -, c0, c1, c2, c3, c4, hat⟩ := (hh.dos HD.out).at hlt
        have hp := diskOf_pend n (ds.take k)
        have htl : (ds.take k).length ≤ k := List.length_take_le _ _
        have hbl := HR.out ds[k] (List.getElem_mem hlt)
        obtain ⟨hsb, hsk⟩ := hat.old hh (rBlk wr.heap.size 35 #[.int .i64 ds[k].op, sv ds[k].name, .slice bA ds[k].b.length bc, .int .i64 ds[k].n, .slice kA ds[k].keep.length kc] :: B)
        have hg0 := (hh.block 35 #[.int .i64 ds[k].op, sv ds[k].name, .slice bA ds[k].b.length bc, .int .i64 ds[k].n, .slice kA ds[k].keep.length kc]).pull1
        have CC := hid (does_held hg0 (diskOf_ok HO.out.2 _) (by omega) ds[k] hat.wf bA kA bc kc hsb hsk (by omega))
        rw [← diskOf_succ hlt] at CC
        clear hh hat hp htl hbl hsb hsk hg0
        obtain ⟨kd, hkd⟩ : ∃ kd, kd = ds[k] := ⟨_, rfl⟩
        rw [← hkd] at c0 c1 c2 c3 c4 CC
        clear hkd
        unfold sv at c1 CC
        go_wp2_with fail
        refine CC.out.mono ?_
        rintro e w3 ⟨rfl, g3⟩
        have G3 := hid (Held.drop0 (Held.pull1 g3))
        clear g3
        go_wp2_with fail
        exact ⟨⟨k + 1, by omega, by simp, G3.out⟩, by show ds.length - ((k : Int) + 1).toNat < ds.length - (k : Int).toNat; omega⟩
      · have hfull : ds.take k = ds := List.take_of_length_le (by omega)
        rw [hfull] at hh
        have HH := hid hh
        have HF := hid (And.intro hlen HR.out)
        clear hh hfull
        go_wp2_with fail
        go_ret2
        exact ⟨p, rfl, HH.out⟩
end Go.Proofs.Ytkednbkildkkmaa
