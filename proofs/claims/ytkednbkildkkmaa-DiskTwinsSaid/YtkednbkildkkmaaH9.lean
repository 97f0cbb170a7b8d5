/- DiskTwins: the walk. -/
import Derived.Test.YtkednbkildkkmaaG6
import Derived.Deep.RegionHeld
import Derived.BigQuiet
namespace Go.Proofs.Ytkednbkildkkmaa
open Go.RowKit
open Disk

/-- the four disks, between two rounds. -/
def TwinAt (w : World) (p q pe pf : Nat) (d : Dk) (one two : List Do) (k : Nat) (wr : World) : Prop :=
  Held w wr [rDisk p (d.calls (two.take k)), rDisk q (d.calls (one.take k)), rDisk pf (d.calls (two.take k)), rDisk pe (d.calls (one.take k))]
theorem calls_take {d : Dk} (hok : d.Ok) (hsm : d.Small 120) {l : List Do} (hl : l.length ≤ 120) (k : Nat) : (d.calls (l.take k)).Ok ∧ (d.calls (l.take k)).Small 240 :=
  ⟨calls_ok hok _, (calls_small hsm _).more (by rw [List.length_take]; omega)⟩
theorem calls_over {d : Dk} {l : List Do} {k : Nat} (h : l.length ≤ k) : d.calls (l.take (k + 1)) = d.calls (l.take k) := by
  rw [List.take_of_length_le h, List.take_of_length_le (by omega)]

set_option maxRecDepth 100000 in
set_option maxHeartbeats 8000000 in
theorem twins_walk (w : World) (room : Int) (v : Value) (ds : List Do) (h : Dos w.heap.size w v ds) (v2 : Value) (one : List Do) (h2 : Dos w.heap.size w v2 one) (v3 : Value) (two : List Do) (h3 : Dos w.heap.size w v3 two) :
    Calls Try.prog 8 #[.int .i64 room, v, v2, v3] w fun e w' => e = .returned (.bool true) ∧ Below w.heap.size w w' := by
  obtain ⟨oA, oc, rfl, o1, o2⟩ := h2.form
  obtain ⟨tA, tc, rfl, t1, t2⟩ := h3.form
  obtain ⟨n, hn, hnl⟩ := u20_mod room
  have HM := hid (made_exact (Held.begin w) room hn hnl v ds h)
  have HME := hid (fun (w' : World) (B : List Res) (g : Held w w' B) => made_exact g room hn hnl v ds h)
  have HK := hid (And.intro h2 (And.intro h3 hnl))
  clear h h2 h3 hn
  go_enter Try.func8, Try.ntmps8
  go_wp2_with fail
  refine HM.out.mono ?_
  rintro e w1 ⟨p, rfl, g⟩
  cases hs0 : shortB ds with
  | false =>
    have G := hid g
    clear g HM hs0
    go_wp2_with fail
    refine (awake_any w1).mono ?_
    rintro e w2 ⟨rfl, hm⟩
    go_wp2_with fail
    go_ret
    exact ⟨rfl, (G.out.step hm).below⟩
  | true =>
    have S1 := hid (short_exact w.heap.size w1 _ one (g.dos HK.out.1))
    have S2 := hid (short_exact w.heap.size w1 _ two (g.dos HK.out.2.1))
    have hsb := shortB_bound hs0
    rw [hs0] at g
    simp only [if_true] at g
    have HS0 := hid hs0
    have hok := diskOf_ok HK.out.2.2 ds
    have hsm := (diskOf_small n ds).more hsb.1
    have HDD := hid (rfl : diskOf n ds = diskOf n ds)
    obtain ⟨d, hd⟩ : ∃ d, d = diskOf n ds := ⟨_, rfl⟩
    rw [← hd] at g hok hsm
    have HD := hid hd
    have HO := hid (And.intro hok hsm)
    have C1 := hid (clone_disk g hok (by have := hsm.rest; omega))
    have G := hid g
    clear g HM hs0 hsb hok hsm hd HDD
    go_wp2_with fail
    refine S1.out.mono ?_
    rintro e w2 ⟨rfl, rfl⟩
    cases hs1 : shortB one with
    | false =>
      clear S1 S2 hs1
      go_wp2_with fail
      refine (awake_any w1).mono ?_
      rintro e w2 ⟨rfl, hm⟩
      go_wp2_with fail
      go_ret
      exact ⟨rfl, (G.out.step hm).below⟩
    | true =>
      have HB1 := hid (shortB_bound hs1)
      clear S1 hs1
      go_wp2_with fail
      refine S2.out.mono ?_
      rintro e w2 ⟨rfl, rfl⟩
      cases hs2 : shortB two with
      | false =>
        clear S2 hs2
        go_wp2_with fail
        refine (awake_any w1).mono ?_
        rintro e w2 ⟨rfl, hm⟩
        go_wp2_with fail
        go_ret
        exact ⟨rfl, (G.out.step hm).below⟩
      | true =>
        have HB2 := hid (shortB_bound hs2)
        clear S2 hs2 G
        go_wp2_with fail
        refine C1.out.mono ?_
        rintro e w2 ⟨q, rfl, g⟩
        have M1 := hid (HME.out _ _ g)
        rw [HS0.out] at M1
        simp only [if_true] at M1
        rw [← HD.out] at M1
        clear g C1
        go_wp2_with fail
        refine M1.out.mono ?_
        rintro e w3 ⟨pe, rfl, g⟩
        have M2 := hid (HME.out _ _ g)
        rw [HS0.out] at M2
        simp only [if_true] at M2
        rw [← HD.out] at M2
        clear g M1
        go_wp2_with fail
        refine M2.out.mono ?_
        rintro e w4 ⟨pf, rfl, g⟩
        -- pf, pe, q, p
        have E1 := hid (same_held (g.pull2.pull3.pull1) HO.out.1 HO.out.1 (Alike.refl _) (by have := HO.out.2.seen; omega))
        have hub : used d.held ≤ 1000000000000 := by have := HO.out.1.fits; have := HO.out.1.room; omega
        have HUB := hid hub
        clear g M2 hub
        go_wp2_with fail
        refine E1.out.mono ?_
        rintro e w5 ⟨rfl, g⟩
        -- q, p, pf, pe
        have P1 := hid (pending_held g)
        have P2 := hid (pending_held g.pull1)
        have U1 := hid (used_held g HUB.out)
        obtain ⟨pn, hpn⟩ : ∃ pn, pn = d.pending.length := ⟨_, rfl⟩
        rw [← hpn] at P1 P2
        clear g E1 hpn
        go_wp2_with fail
        refine P1.out.mono ?_
        rintro e w6 ⟨rfl, rfl⟩
        clear P1
        go_wp2_with fail
        refine P2.out.mono ?_
        rintro e w6 ⟨rfl, rfl⟩
        clear P2
        go_wp2_with fail
        refine U1.out.mono ?_
        rintro e w6 ⟨rfl, g⟩
        have U2 := hid (used_held g.pull1 HUB.out)
        obtain ⟨us, hus⟩ : ∃ us, us = used d.held := ⟨_, rfl⟩
        rw [← hus] at U2 ⊢
        clear g U1 hus
        go_wp2_with fail
        refine U2.out.mono ?_
        rintro e w7 ⟨rfl, g⟩
        -- p, q, pf, pe
        have R1 := hid (room_held g.pull1)
        have R2 := hid (room_held g)
        obtain ⟨rm, hrm⟩ : ∃ rm, rm = d.room := ⟨_, rfl⟩
        rw [← hrm] at R1 R2
        have T0 := hid (show TwinAt w p q pe pf d one two 0 w7 from g)
        clear g U2 hrm
        go_wp2_with fail
        refine R1.out.mono ?_
        rintro e w8 ⟨rfl, rfl⟩
        clear R1
        go_wp2_with fail
        refine R2.out.mono ?_
        rintro e w8 ⟨rfl, rfl⟩
        clear R2 HME HS0 HD HUB
        have hb1 := HB1.out.1
        have hb2 := HB2.out.1
        rcases Nat.le_total one.length two.length with hle | hle
        · have hmx : max (one.length : Int) (two.length : Int) = (two.length : Int) := by omega
          go_wp2_with fail
          go_loopw [80] (fun iv wr => ∃ k : Nat, k ≤ two.length ∧ iv = .int .i64 k ∧ TwinAt w p q pe pf d one two k wr) (fun iv _ => two.length - (intOf iv).toNat)
          case atStart => exact ⟨0, Nat.zero_le _, rfl, T0.out⟩
          case round =>
            obtain ⟨k, hk, rfl, hh⟩ := hrel
            clear T0
            by_cases hlt : k < two.length
            · have K1 := hid (calls_take HO.out.1 HO.out.2 hb1 k)
              have K2 := hid (calls_take HO.out.1 HO.out.2 hb2 k)
              by_cases hlo : k < one.length
              · unfold TwinAt at hh
                have n1 := HB1.out.2 one[k] (List.getElem_mem hlo)
                have s1 := calls_succ (d := d) hlo
                obtain ⟨b1, off1, bA1, bc1, kA1, kc1, hA1, -, c0, c1, c2, c3, c4, hat1⟩ := (HK.out.1).at hlo
                obtain ⟨k1, hk1⟩ : ∃ kd, kd = one[k] := ⟨_, rfl⟩
                rw [← hk1] at n1 s1 c0 c1 c2 c3 c4 hat1
                unfold sv at c1
                subst hA1
                have FC1 := hid (fun (w' : World) (Rs : List Res) (g : Held w w' Rs) => (show w'.cell? ⟨b1, off1 + k * 5, none⟩ = some (.int .i64 k1.op) ∧ w'.cell? ⟨b1, off1 + k * 5 + 1, none⟩ = some (.string ⟨k1.name.toArray⟩) ∧ w'.cell? ⟨b1, off1 + k * 5 + 2, none⟩ = some (.slice bA1 k1.b.length bc1) ∧ w'.cell? ⟨b1, off1 + k * 5 + 3, none⟩ = some (.int .i64 k1.n) ∧ w'.cell? ⟨b1, off1 + k * 5 + 4, none⟩ = some (.slice kA1 k1.keep.length kc1) from ⟨g.mod.cell c0 (fun h => h), g.mod.cell c1 (fun h => h), g.mod.cell c2 (fun h => h), g.mod.cell c3 (fun h => h), g.mod.cell c4 (fun h => h)⟩))
                have HAT1 := hid hat1
                have N1 := hid n1
                clear c0 c1 c2 c3 c4 hat1 n1 hk1
                obtain ⟨d1, hd1⟩ : ∃ e, e = d.calls (one.take k) := ⟨_, rfl⟩
                rw [← hd1] at hh s1 K1
                obtain ⟨d1', hd1'⟩ : ∃ e, e = (d1.call k1).1 := ⟨_, rfl⟩
                obtain ⟨r1, hr1⟩ : ∃ r, r = (d1.call k1).2 := ⟨_, rfl⟩
                rw [← hd1'] at s1
                have SS1 := hid s1
                clear hd1 s1
                have n2 := HB2.out.2 two[k] (List.getElem_mem hlt)
                have s2 := calls_succ (d := d) hlt
                obtain ⟨b2, off2, bA2, bc2, kA2, kc2, hA2, -, c0, c1, c2, c3, c4, hat2⟩ := (HK.out.2.1).at hlt
                obtain ⟨k2, hk2⟩ : ∃ kd, kd = two[k] := ⟨_, rfl⟩
                rw [← hk2] at n2 s2 c0 c1 c2 c3 c4 hat2
                unfold sv at c1
                subst hA2
                have FC2 := hid (fun (w' : World) (Rs : List Res) (g : Held w w' Rs) => (show w'.cell? ⟨b2, off2 + k * 5, none⟩ = some (.int .i64 k2.op) ∧ w'.cell? ⟨b2, off2 + k * 5 + 1, none⟩ = some (.string ⟨k2.name.toArray⟩) ∧ w'.cell? ⟨b2, off2 + k * 5 + 2, none⟩ = some (.slice bA2 k2.b.length bc2) ∧ w'.cell? ⟨b2, off2 + k * 5 + 3, none⟩ = some (.int .i64 k2.n) ∧ w'.cell? ⟨b2, off2 + k * 5 + 4, none⟩ = some (.slice kA2 k2.keep.length kc2) from ⟨g.mod.cell c0 (fun h => h), g.mod.cell c1 (fun h => h), g.mod.cell c2 (fun h => h), g.mod.cell c3 (fun h => h), g.mod.cell c4 (fun h => h)⟩))
                have HAT2 := hid hat2
                have N2 := hid n2
                clear c0 c1 c2 c3 c4 hat2 n2 hk2
                obtain ⟨d2, hd2⟩ : ∃ e, e = d.calls (two.take k) := ⟨_, rfl⟩
                rw [← hd2] at hh s2 K2
                obtain ⟨d2', hd2'⟩ : ∃ e, e = (d2.call k2).1 := ⟨_, rfl⟩
                obtain ⟨r2, hr2⟩ : ∃ r, r = (d2.call k2).2 := ⟨_, rfl⟩
                rw [← hd2'] at s2
                have SS2 := hid s2
                clear hd2 s2
                have C1 := hid (fun (w' : World) (g : Held w w' (rDisk q d1 :: [rDisk p d2, rDisk pf d2, rDisk pe d1])) => does_held g K1.out.1 (by have := K1.out.2.rest; omega) k1 HAT1.out.wf bA1 kA1 bc1 kc1 (src_old HAT1.out.b) (src_old HAT1.out.keep) (by have := N1.out; omega))
                rw [← hd1', ← hr1] at C1
                unfold sv at C1
                have C2 := hid (fun (w' : World) (g : Held w w' (rDisk pe d1 :: [rDisk q d1', rDisk p d2, rDisk pf d2])) => does_held g K1.out.1 (by have := K1.out.2.rest; omega) k1 HAT1.out.wf bA1 kA1 bc1 kc1 (src_old HAT1.out.b) (src_old HAT1.out.keep) (by have := N1.out; omega))
                rw [← hd1', ← hr1] at C2
                unfold sv at C2
                have C3 := hid (fun (w' : World) (g : Held w w' (rDisk p d2 :: [rDisk pe d1', rDisk q d1', rDisk pf d2])) => does_held g K2.out.1 (by have := K2.out.2.rest; omega) k2 HAT2.out.wf bA2 kA2 bc2 kc2 (src_old HAT2.out.b) (src_old HAT2.out.keep) (by have := N2.out; omega))
                rw [← hd2', ← hr2] at C3
                unfold sv at C3
                have C4 := hid (fun (w' : World) (g : Held w w' (rDisk pf d2 :: [rDisk p d2', rDisk pe d1', rDisk q d1'])) => does_held g K2.out.1 (by have := K2.out.2.rest; omega) k2 HAT2.out.wf bA2 kA2 bc2 kc2 (src_old HAT2.out.b) (src_old HAT2.out.keep) (by have := N2.out; omega))
                rw [← hd2', ← hr2] at C4
                unfold sv at C4
                have HH := hid hh
                have x0 : (wr.drew.cell? ⟨b1, off1 + k * 5, none⟩ = some (.int .i64 k1.op) ∧ wr.drew.cell? ⟨b1, off1 + k * 5 + 1, none⟩ = some (.string ⟨k1.name.toArray⟩) ∧ wr.drew.cell? ⟨b1, off1 + k * 5 + 2, none⟩ = some (.slice bA1 k1.b.length bc1) ∧ wr.drew.cell? ⟨b1, off1 + k * 5 + 3, none⟩ = some (.int .i64 k1.n) ∧ wr.drew.cell? ⟨b1, off1 + k * 5 + 4, none⟩ = some (.slice kA1 k1.keep.length kc1)) ∧ (wr.drew.cell? ⟨b2, off2 + k * 5, none⟩ = some (.int .i64 k2.op) ∧ wr.drew.cell? ⟨b2, off2 + k * 5 + 1, none⟩ = some (.string ⟨k2.name.toArray⟩) ∧ wr.drew.cell? ⟨b2, off2 + k * 5 + 2, none⟩ = some (.slice bA2 k2.b.length bc2) ∧ wr.drew.cell? ⟨b2, off2 + k * 5 + 3, none⟩ = some (.int .i64 k2.n) ∧ wr.drew.cell? ⟨b2, off2 + k * 5 + 4, none⟩ = some (.slice kA2 k2.keep.length kc2)) := ⟨FC1.out _ _ hh.drew, FC2.out _ _ hh.drew⟩
                clear hh hd1' hr1 hd2' hr2
                have hk0 : (0 : Int) ≤ (k : Int) := by omega
                have hi1 : (k : Int) < (one.length : Int) := by omega
                have hj1 : decide (k < one.length) = true := by simp; omega
                have hi2 : (k : Int) < (two.length : Int) := by omega
                have hj2 : decide (k < two.length) = true := by simp; omega
                go_wp2_with fail
                go_region_held3 (fun w' => (w'.cell? ⟨b1, off1 + k * 5, none⟩ = some (.int .i64 k1.op) ∧ w'.cell? ⟨b1, off1 + k * 5 + 1, none⟩ = some (.string ⟨k1.name.toArray⟩) ∧ w'.cell? ⟨b1, off1 + k * 5 + 2, none⟩ = some (.slice bA1 k1.b.length bc1) ∧ w'.cell? ⟨b1, off1 + k * 5 + 3, none⟩ = some (.int .i64 k1.n) ∧ w'.cell? ⟨b1, off1 + k * 5 + 4, none⟩ = some (.slice kA1 k1.keep.length kc1)) ∧ (w'.cell? ⟨b2, off2 + k * 5, none⟩ = some (.int .i64 k2.op) ∧ w'.cell? ⟨b2, off2 + k * 5 + 1, none⟩ = some (.string ⟨k2.name.toArray⟩) ∧ w'.cell? ⟨b2, off2 + k * 5 + 2, none⟩ = some (.slice bA2 k2.b.length bc2) ∧ w'.cell? ⟨b2, off2 + k * 5 + 3, none⟩ = some (.int .i64 k2.n) ∧ w'.cell? ⟨b2, off2 + k * 5 + 4, none⟩ = some (.slice kA2 k2.keep.length kc2)))
                  (first | exact x0 | exact xC1 | exact xC2 | exact xC3 | exact xC4)
                  (first
                    | (go_at_call 17; (with_reducible refine (C1.out _ (HH.out.drew.pull1)).mono ?_); rintro e uC1 ⟨rfl, g2⟩; have xC1 : (uC1.cell? ⟨b1, off1 + k * 5, none⟩ = some (.int .i64 k1.op) ∧ uC1.cell? ⟨b1, off1 + k * 5 + 1, none⟩ = some (.string ⟨k1.name.toArray⟩) ∧ uC1.cell? ⟨b1, off1 + k * 5 + 2, none⟩ = some (.slice bA1 k1.b.length bc1) ∧ uC1.cell? ⟨b1, off1 + k * 5 + 3, none⟩ = some (.int .i64 k1.n) ∧ uC1.cell? ⟨b1, off1 + k * 5 + 4, none⟩ = some (.slice kA1 k1.keep.length kc1)) ∧ (uC1.cell? ⟨b2, off2 + k * 5, none⟩ = some (.int .i64 k2.op) ∧ uC1.cell? ⟨b2, off2 + k * 5 + 1, none⟩ = some (.string ⟨k2.name.toArray⟩) ∧ uC1.cell? ⟨b2, off2 + k * 5 + 2, none⟩ = some (.slice bA2 k2.b.length bc2) ∧ uC1.cell? ⟨b2, off2 + k * 5 + 3, none⟩ = some (.int .i64 k2.n) ∧ uC1.cell? ⟨b2, off2 + k * 5 + 4, none⟩ = some (.slice kA2 k2.keep.length kc2)) := ⟨FC1.out _ _ g2, FC2.out _ _ g2⟩; have GC1 := hid g2; clear g2)
                    | (go_at_call 17; (with_reducible refine (C2.out _ (GC1.out.pull3)).mono ?_); rintro e uC2 ⟨rfl, g2⟩; have xC2 : (uC2.cell? ⟨b1, off1 + k * 5, none⟩ = some (.int .i64 k1.op) ∧ uC2.cell? ⟨b1, off1 + k * 5 + 1, none⟩ = some (.string ⟨k1.name.toArray⟩) ∧ uC2.cell? ⟨b1, off1 + k * 5 + 2, none⟩ = some (.slice bA1 k1.b.length bc1) ∧ uC2.cell? ⟨b1, off1 + k * 5 + 3, none⟩ = some (.int .i64 k1.n) ∧ uC2.cell? ⟨b1, off1 + k * 5 + 4, none⟩ = some (.slice kA1 k1.keep.length kc1)) ∧ (uC2.cell? ⟨b2, off2 + k * 5, none⟩ = some (.int .i64 k2.op) ∧ uC2.cell? ⟨b2, off2 + k * 5 + 1, none⟩ = some (.string ⟨k2.name.toArray⟩) ∧ uC2.cell? ⟨b2, off2 + k * 5 + 2, none⟩ = some (.slice bA2 k2.b.length bc2) ∧ uC2.cell? ⟨b2, off2 + k * 5 + 3, none⟩ = some (.int .i64 k2.n) ∧ uC2.cell? ⟨b2, off2 + k * 5 + 4, none⟩ = some (.slice kA2 k2.keep.length kc2)) := ⟨FC1.out _ _ g2, FC2.out _ _ g2⟩; have GC2 := hid g2; clear g2)
                    | (go_at_call 17; (with_reducible refine (C3.out _ (GC2.out.pull2)).mono ?_); rintro e uC3 ⟨rfl, g2⟩; have xC3 : (uC3.cell? ⟨b1, off1 + k * 5, none⟩ = some (.int .i64 k1.op) ∧ uC3.cell? ⟨b1, off1 + k * 5 + 1, none⟩ = some (.string ⟨k1.name.toArray⟩) ∧ uC3.cell? ⟨b1, off1 + k * 5 + 2, none⟩ = some (.slice bA1 k1.b.length bc1) ∧ uC3.cell? ⟨b1, off1 + k * 5 + 3, none⟩ = some (.int .i64 k1.n) ∧ uC3.cell? ⟨b1, off1 + k * 5 + 4, none⟩ = some (.slice kA1 k1.keep.length kc1)) ∧ (uC3.cell? ⟨b2, off2 + k * 5, none⟩ = some (.int .i64 k2.op) ∧ uC3.cell? ⟨b2, off2 + k * 5 + 1, none⟩ = some (.string ⟨k2.name.toArray⟩) ∧ uC3.cell? ⟨b2, off2 + k * 5 + 2, none⟩ = some (.slice bA2 k2.b.length bc2) ∧ uC3.cell? ⟨b2, off2 + k * 5 + 3, none⟩ = some (.int .i64 k2.n) ∧ uC3.cell? ⟨b2, off2 + k * 5 + 4, none⟩ = some (.slice kA2 k2.keep.length kc2)) := ⟨FC1.out _ _ g2, FC2.out _ _ g2⟩; have GC3 := hid g2; clear g2)
                    | (go_at_call 17; (with_reducible refine (C4.out _ (GC3.out.pull3)).mono ?_); rintro e uC4 ⟨rfl, g2⟩; have xC4 : (uC4.cell? ⟨b1, off1 + k * 5, none⟩ = some (.int .i64 k1.op) ∧ uC4.cell? ⟨b1, off1 + k * 5 + 1, none⟩ = some (.string ⟨k1.name.toArray⟩) ∧ uC4.cell? ⟨b1, off1 + k * 5 + 2, none⟩ = some (.slice bA1 k1.b.length bc1) ∧ uC4.cell? ⟨b1, off1 + k * 5 + 3, none⟩ = some (.int .i64 k1.n) ∧ uC4.cell? ⟨b1, off1 + k * 5 + 4, none⟩ = some (.slice kA1 k1.keep.length kc1)) ∧ (uC4.cell? ⟨b2, off2 + k * 5, none⟩ = some (.int .i64 k2.op) ∧ uC4.cell? ⟨b2, off2 + k * 5 + 1, none⟩ = some (.string ⟨k2.name.toArray⟩) ∧ uC4.cell? ⟨b2, off2 + k * 5 + 2, none⟩ = some (.slice bA2 k2.b.length bc2) ∧ uC4.cell? ⟨b2, off2 + k * 5 + 3, none⟩ = some (.int .i64 k2.n) ∧ uC4.cell? ⟨b2, off2 + k * 5 + 4, none⟩ = some (.slice kA2 k2.keep.length kc2)) := ⟨FC1.out _ _ g2, FC2.out _ _ g2⟩; have GC4 := hid g2; clear g2))
                all_goals
                  have G9 := hid (show TwinAt w p q pe pf d one two (k + 1) _ from by unfold TwinAt; rw [SS1.out, SS2.out]; exact GC4.out.pull2.pull1.pull3.pull3)
                  go_wp2_with fail
                  exact ⟨⟨k + 1, by omega, by simp, G9.out⟩, by show two.length - ((k : Int) + 1).toNat < two.length - (k : Int).toNat; omega⟩
              · unfold TwinAt at hh
                have s1 := calls_over (d := d) (l := one) (k := k) (by omega)
                obtain ⟨d1, hd1⟩ : ∃ e, e = d.calls (one.take k) := ⟨_, rfl⟩
                rw [← hd1] at hh s1 K1
                have SS1 := hid s1
                clear hd1 s1
                have n2 := HB2.out.2 two[k] (List.getElem_mem hlt)
                have s2 := calls_succ (d := d) hlt
                obtain ⟨b2, off2, bA2, bc2, kA2, kc2, hA2, -, c0, c1, c2, c3, c4, hat2⟩ := (HK.out.2.1).at hlt
                obtain ⟨k2, hk2⟩ : ∃ kd, kd = two[k] := ⟨_, rfl⟩
                rw [← hk2] at n2 s2 c0 c1 c2 c3 c4 hat2
                unfold sv at c1
                subst hA2
                have FC2 := hid (fun (w' : World) (Rs : List Res) (g : Held w w' Rs) => (show w'.cell? ⟨b2, off2 + k * 5, none⟩ = some (.int .i64 k2.op) ∧ w'.cell? ⟨b2, off2 + k * 5 + 1, none⟩ = some (.string ⟨k2.name.toArray⟩) ∧ w'.cell? ⟨b2, off2 + k * 5 + 2, none⟩ = some (.slice bA2 k2.b.length bc2) ∧ w'.cell? ⟨b2, off2 + k * 5 + 3, none⟩ = some (.int .i64 k2.n) ∧ w'.cell? ⟨b2, off2 + k * 5 + 4, none⟩ = some (.slice kA2 k2.keep.length kc2) from ⟨g.mod.cell c0 (fun h => h), g.mod.cell c1 (fun h => h), g.mod.cell c2 (fun h => h), g.mod.cell c3 (fun h => h), g.mod.cell c4 (fun h => h)⟩))
                have HAT2 := hid hat2
                have N2 := hid n2
                clear c0 c1 c2 c3 c4 hat2 n2 hk2
                obtain ⟨d2, hd2⟩ : ∃ e, e = d.calls (two.take k) := ⟨_, rfl⟩
                rw [← hd2] at hh s2 K2
                obtain ⟨d2', hd2'⟩ : ∃ e, e = (d2.call k2).1 := ⟨_, rfl⟩
                obtain ⟨r2, hr2⟩ : ∃ r, r = (d2.call k2).2 := ⟨_, rfl⟩
                rw [← hd2'] at s2
                have SS2 := hid s2
                clear hd2 s2
                have C3 := hid (fun (w' : World) (g : Held w w' (rDisk p d2 :: [rDisk q d1, rDisk pf d2, rDisk pe d1])) => does_held g K2.out.1 (by have := K2.out.2.rest; omega) k2 HAT2.out.wf bA2 kA2 bc2 kc2 (src_old HAT2.out.b) (src_old HAT2.out.keep) (by have := N2.out; omega))
                rw [← hd2', ← hr2] at C3
                unfold sv at C3
                have C4 := hid (fun (w' : World) (g : Held w w' (rDisk pf d2 :: [rDisk p d2', rDisk q d1, rDisk pe d1])) => does_held g K2.out.1 (by have := K2.out.2.rest; omega) k2 HAT2.out.wf bA2 kA2 bc2 kc2 (src_old HAT2.out.b) (src_old HAT2.out.keep) (by have := N2.out; omega))
                rw [← hd2', ← hr2] at C4
                unfold sv at C4
                have HH := hid hh
                have x0 : (wr.drew.cell? ⟨b2, off2 + k * 5, none⟩ = some (.int .i64 k2.op) ∧ wr.drew.cell? ⟨b2, off2 + k * 5 + 1, none⟩ = some (.string ⟨k2.name.toArray⟩) ∧ wr.drew.cell? ⟨b2, off2 + k * 5 + 2, none⟩ = some (.slice bA2 k2.b.length bc2) ∧ wr.drew.cell? ⟨b2, off2 + k * 5 + 3, none⟩ = some (.int .i64 k2.n) ∧ wr.drew.cell? ⟨b2, off2 + k * 5 + 4, none⟩ = some (.slice kA2 k2.keep.length kc2)) := FC2.out _ _ hh.drew
                clear hh hd2' hr2
                have hk0 : (0 : Int) ≤ (k : Int) := by omega
                have hj1 : decide (k < one.length) = false := by simp; omega
                have hi2 : (k : Int) < (two.length : Int) := by omega
                have hj2 : decide (k < two.length) = true := by simp; omega
                go_wp2_with fail
                refine wp_region_held_drew (S := fun w' => (w'.cell? ⟨b2, off2 + k * 5, none⟩ = some (.int .i64 k2.op) ∧ w'.cell? ⟨b2, off2 + k * 5 + 1, none⟩ = some (.string ⟨k2.name.toArray⟩) ∧ w'.cell? ⟨b2, off2 + k * 5 + 2, none⟩ = some (.slice bA2 k2.b.length bc2) ∧ w'.cell? ⟨b2, off2 + k * 5 + 3, none⟩ = some (.int .i64 k2.n) ∧ w'.cell? ⟨b2, off2 + k * 5 + 4, none⟩ = some (.slice kA2 k2.keep.length kc2))) (by kernel_rfl) (by exact x0) (fun hHeld => ?_)
                refine' wpAnyH_take (i := 0) (oi := _) (v := _) rfl (by kernel_rfl) (by kernel_rfl) (by kernel_rfl) (fun _ _ _ h => h) (Or.inl ⟨by rfl, ?hy⟩) (by assumption) ?rest
                case hy => (intro w hSw; (try dsimp only at hSw); go_simp; try (with_reducible rfl))
                case rest =>
                  try simp only [Act.put, List.getElem_toArray, List.getElem_cons_zero, List.getElem_cons_succ, List.setIfInBounds_toArray, List.set_cons_zero, List.set_cons_succ]
                  refine' wpAnyH_take (i := 1) (oi := _) (v := _) rfl (by kernel_rfl) (by kernel_rfl) (by kernel_rfl) (fun _ _ _ h => h) (Or.inl ⟨by rfl, ?hy⟩) (by assumption) ?rest
                  case hy => (intro w hSw; (try dsimp only at hSw); go_simp; try (with_reducible rfl))
                  case rest =>
                    try simp only [Act.put, List.getElem_toArray, List.getElem_cons_zero, List.getElem_cons_succ, List.setIfInBounds_toArray, List.set_cons_zero, List.set_cons_succ]
                    refine' wpAnyH_take (i := 2) (oi := _) (v := _) rfl (by kernel_rfl) (by kernel_rfl) (by kernel_rfl) (fun _ _ _ h => h) (Or.inl ⟨by rfl, ?hy⟩) (by assumption) ?rest
                    case hy => (intro w hSw; (try dsimp only at hSw); go_simp; try (with_reducible rfl))
                    case rest =>
                      try simp only [Act.put, List.getElem_toArray, List.getElem_cons_zero, List.getElem_cons_succ, List.setIfInBounds_toArray, List.set_cons_zero, List.set_cons_succ]
                      refine' wpAnyH_take (i := 3) (oi := _) (v := _) rfl (by kernel_rfl) (by kernel_rfl) (by kernel_rfl) (fun _ _ _ h => h) (Or.inl ⟨by rfl, ?hy⟩) (by assumption) ?rest
                      case hy => (intro w hSw; (try dsimp only at hSw); go_simp; try (with_reducible rfl))
                      case rest =>
                        try simp only [Act.put, List.getElem_toArray, List.getElem_cons_zero, List.getElem_cons_succ, List.setIfInBounds_toArray, List.set_cons_zero, List.set_cons_succ]
                        refine' wpAnyH_take (i := 4) (oi := _) (v := _) rfl (by kernel_rfl) (by kernel_rfl) (by kernel_rfl) (fun _ _ _ h => h) (Or.inl ⟨by rfl, ?hy⟩) (by assumption) ?rest
                        case hy => (intro w hSw; (try dsimp only at hSw); go_simp; try (with_reducible rfl))
                        case rest =>
                          try simp only [Act.put, List.getElem_toArray, List.getElem_cons_zero, List.getElem_cons_succ, List.setIfInBounds_toArray, List.set_cons_zero, List.set_cons_succ]
                          refine wpAnyH_take (i := 5) (oi := _) (v := undef) rfl (by kernel_rfl) (by kernel_rfl) (by kernel_rfl) (fun _ _ _ h => h) (Or.inr ⟨by rfl, rfl⟩) (by assumption) ?_
                          try simp only [Act.put, List.getElem_toArray, List.getElem_cons_zero, List.getElem_cons_succ, List.setIfInBounds_toArray, List.set_cons_zero, List.set_cons_succ]
                          refine wpAnyH_take (i := 6) (oi := _) (v := undef) rfl (by kernel_rfl) (by kernel_rfl) (by kernel_rfl) (fun _ _ _ h => h) (Or.inr ⟨by rfl, rfl⟩) (by assumption) ?_
                          try simp only [Act.put, List.getElem_toArray, List.getElem_cons_zero, List.getElem_cons_succ, List.setIfInBounds_toArray, List.set_cons_zero, List.set_cons_succ]
                          refine wpAnyH_take (i := 7) (oi := _) (v := undef) rfl (by kernel_rfl) (by kernel_rfl) (by kernel_rfl) (fun _ _ _ h => h) (Or.inr ⟨by rfl, rfl⟩) (by assumption) ?_
                          try simp only [Act.put, List.getElem_toArray, List.getElem_cons_zero, List.getElem_cons_succ, List.setIfInBounds_toArray, List.set_cons_zero, List.set_cons_succ]
                          refine wpAnyH_take (i := 8) (oi := _) (v := undef) rfl (by kernel_rfl) (by kernel_rfl) (by kernel_rfl) (fun _ _ _ h => h) (Or.inr ⟨by rfl, rfl⟩) (by assumption) ?_
                          try simp only [Act.put, List.getElem_toArray, List.getElem_cons_zero, List.getElem_cons_succ, List.setIfInBounds_toArray, List.set_cons_zero, List.set_cons_succ]
                          refine wpAnyH_take (i := 9) (oi := _) (v := undef) rfl (by kernel_rfl) (by kernel_rfl) (by kernel_rfl) (fun _ _ _ h => h) (Or.inr ⟨by rfl, rfl⟩) (by assumption) ?_
                          try simp only [Act.put, List.getElem_toArray, List.getElem_cons_zero, List.getElem_cons_succ, List.setIfInBounds_toArray, List.set_cons_zero, List.set_cons_succ]
                          refine wpAnyH_take (i := 10) (oi := _) (v := undef) rfl (by kernel_rfl) (by kernel_rfl) (by kernel_rfl) (fun _ _ _ h => h) (Or.inr ⟨by rfl, rfl⟩) (by assumption) ?_
                          try simp only [Act.put, List.getElem_toArray, List.getElem_cons_zero, List.getElem_cons_succ, List.setIfInBounds_toArray, List.set_cons_zero, List.set_cons_succ]
                          refine wpAnyH_take (i := 11) (oi := _) (v := undef) rfl (by kernel_rfl) (by kernel_rfl) (by kernel_rfl) (fun _ _ _ h => h) (Or.inr ⟨by rfl, rfl⟩) (by assumption) ?_
                          try simp only [Act.put, List.getElem_toArray, List.getElem_cons_zero, List.getElem_cons_succ, List.setIfInBounds_toArray, List.set_cons_zero, List.set_cons_succ]
                          refine wpAnyH_take (i := 12) (oi := _) (v := undef) rfl (by kernel_rfl) (by kernel_rfl) (by kernel_rfl) (fun _ _ _ h => h) (Or.inr ⟨by rfl, rfl⟩) (by assumption) ?_
                          try simp only [Act.put, List.getElem_toArray, List.getElem_cons_zero, List.getElem_cons_succ, List.setIfInBounds_toArray, List.set_cons_zero, List.set_cons_succ]
                          refine wpAnyH_take (i := 13) (oi := _) (v := undef) rfl (by kernel_rfl) (by kernel_rfl) (by kernel_rfl) (fun _ _ _ h => h) (Or.inr ⟨by rfl, rfl⟩) (by assumption) ?_
                          try simp only [Act.put, List.getElem_toArray, List.getElem_cons_zero, List.getElem_cons_succ, List.setIfInBounds_toArray, List.set_cons_zero, List.set_cons_succ]
                          refine wpAnyH_take (i := 14) (oi := _) (v := undef) rfl (by kernel_rfl) (by kernel_rfl) (by kernel_rfl) (fun _ _ _ h => h) (Or.inr ⟨by rfl, rfl⟩) (by assumption) ?_
                          try simp only [Act.put, List.getElem_toArray, List.getElem_cons_zero, List.getElem_cons_succ, List.setIfInBounds_toArray, List.set_cons_zero, List.set_cons_succ]
                          refine wpAnyH_take (i := 15) (oi := _) (v := undef) rfl (by kernel_rfl) (by kernel_rfl) (by kernel_rfl) (fun _ _ _ h => h) (Or.inr ⟨by rfl, rfl⟩) (by assumption) ?_
                          try simp only [Act.put, List.getElem_toArray, List.getElem_cons_zero, List.getElem_cons_succ, List.setIfInBounds_toArray, List.set_cons_zero, List.set_cons_succ]
                          refine wpAnyH_take (i := 16) (oi := _) (v := undef) rfl (by kernel_rfl) (by kernel_rfl) (by kernel_rfl) (fun _ _ _ h => h) (Or.inr ⟨by rfl, rfl⟩) (by assumption) ?_
                          try simp only [Act.put, List.getElem_toArray, List.getElem_cons_zero, List.getElem_cons_succ, List.setIfInBounds_toArray, List.set_cons_zero, List.set_cons_succ]
                          refine wpAnyH_take (i := 17) (oi := _) (v := undef) rfl (by kernel_rfl) (by kernel_rfl) (by kernel_rfl) (fun _ _ _ h => h) (Or.inr ⟨by rfl, rfl⟩) (by assumption) ?_
                          try simp only [Act.put, List.getElem_toArray, List.getElem_cons_zero, List.getElem_cons_succ, List.setIfInBounds_toArray, List.set_cons_zero, List.set_cons_succ]
                          refine' wpAnyH_take (i := 18) (oi := _) (v := _) rfl (by kernel_rfl) (by kernel_rfl) (by kernel_rfl) (fun _ _ _ h => h) (Or.inl ⟨by rfl, ?hy⟩) (by assumption) ?rest
                          case hy => (intro w hSw; (try dsimp only at hSw); go_simp; try (with_reducible rfl))
                          case rest =>
                            try simp only [Act.put, List.getElem_toArray, List.getElem_cons_zero, List.getElem_cons_succ, List.setIfInBounds_toArray, List.set_cons_zero, List.set_cons_succ]
                            refine' wpAnyH_take (i := 19) (oi := _) (v := _) rfl (by kernel_rfl) (by kernel_rfl) (by kernel_rfl) (fun _ _ _ h => h) (Or.inl ⟨by rfl, ?hy⟩) (by assumption) ?rest
                            case hy => (intro w hSw; (try dsimp only at hSw); go_simp; try (with_reducible rfl))
                            case rest =>
                              try simp only [Act.put, List.getElem_toArray, List.getElem_cons_zero, List.getElem_cons_succ, List.setIfInBounds_toArray, List.set_cons_zero, List.set_cons_succ]
                              refine' wpAnyH_take (i := 20) (oi := _) (v := _) rfl (by kernel_rfl) (by kernel_rfl) (by kernel_rfl) (fun _ _ _ h => h) (Or.inl ⟨by rfl, ?hy⟩) (by assumption) ?rest
                              case hy => (intro w hSw; (try dsimp only at hSw); go_simp; try (with_reducible rfl))
                              case rest =>
                                try simp only [Act.put, List.getElem_toArray, List.getElem_cons_zero, List.getElem_cons_succ, List.setIfInBounds_toArray, List.set_cons_zero, List.set_cons_succ]
                                refine' wpAnyH_take (i := 21) (oi := _) (v := _) rfl (by kernel_rfl) (by kernel_rfl) (by kernel_rfl) (fun _ _ _ h => h) (Or.inl ⟨by rfl, ?hy⟩) (by assumption) ?rest
                                case hy => (intro w hSw; (try dsimp only at hSw); go_simp; try (with_reducible rfl))
                                case rest =>
                                  try simp only [Act.put, List.getElem_toArray, List.getElem_cons_zero, List.getElem_cons_succ, List.setIfInBounds_toArray, List.set_cons_zero, List.set_cons_succ]
                                  refine' wpAnyH_take (i := 22) (oi := _) (v := _) rfl (by kernel_rfl) (by kernel_rfl) (by kernel_rfl) (fun _ _ _ h => h) (Or.inl ⟨by rfl, ?hy⟩) (by assumption) ?rest
                                  case hy => (intro w hSw; (try dsimp only at hSw); go_simp; try (with_reducible rfl))
                                  case rest =>
                                    try simp only [Act.put, List.getElem_toArray, List.getElem_cons_zero, List.getElem_cons_succ, List.setIfInBounds_toArray, List.set_cons_zero, List.set_cons_succ]
                                    refine' wpAnyH_take (i := 23) (oi := _) (v := _) rfl (by kernel_rfl) (by kernel_rfl) (by kernel_rfl) (fun _ _ _ h => h) (Or.inl ⟨by rfl, ?hy⟩) (by assumption) ?rest
                                    case hy => (intro w hSw; (try dsimp only at hSw); go_simp; try (with_reducible rfl))
                                    case rest =>
                                      try simp only [Act.put, List.getElem_toArray, List.getElem_cons_zero, List.getElem_cons_succ, List.setIfInBounds_toArray, List.set_cons_zero, List.set_cons_succ]
                                      refine' wpAnyH_take (i := 24) (oi := _) (v := _) rfl (by kernel_rfl) (by kernel_rfl) (by kernel_rfl) (fun _ _ _ h => h) (Or.inl ⟨by rfl, ?hy⟩) (by assumption) ?rest
                                      case hy => (intro w hSw; (try dsimp only at hSw); go_simp; try (with_reducible rfl))
                                      case rest =>
                                        try simp only [Act.put, List.getElem_toArray, List.getElem_cons_zero, List.getElem_cons_succ, List.setIfInBounds_toArray, List.set_cons_zero, List.set_cons_succ]
                                        refine' wpAnyH_take (i := 25) (oi := _) (v := _) rfl (by kernel_rfl) (by kernel_rfl) (by kernel_rfl) (fun _ _ _ h => h) (Or.inl ⟨by rfl, ?hy⟩) (by assumption) ?rest
                                        case hy => (intro w hSw; (try dsimp only at hSw); go_simp; try (with_reducible rfl))
                                        case rest =>
                                          try simp only [Act.put, List.getElem_toArray, List.getElem_cons_zero, List.getElem_cons_succ, List.setIfInBounds_toArray, List.set_cons_zero, List.set_cons_succ]
                                          refine' wpAnyH_take (i := 26) (oi := _) (v := _) rfl (by kernel_rfl) (by kernel_rfl) (by kernel_rfl) (fun _ _ _ h => h) (Or.inl ⟨by rfl, ?hy⟩) (by assumption) ?rest
                                          case hy => (intro w hSw; (try dsimp only at hSw); go_simp; try (with_reducible rfl))
                                          case rest =>
                                            try simp only [Act.put, List.getElem_toArray, List.getElem_cons_zero, List.getElem_cons_succ, List.setIfInBounds_toArray, List.set_cons_zero, List.set_cons_succ]
                                            refine' wpAnyH_take (i := 27) (oi := _) (v := _) rfl (by kernel_rfl) (by kernel_rfl) (by kernel_rfl) (fun _ _ _ h => h) (Or.inl ⟨by rfl, ?hy⟩) (by assumption) ?rest
                                            case hy => (intro w hSw; (try dsimp only at hSw); go_simp; try (with_reducible rfl))
                                            case rest =>
                                              try simp only [Act.put, List.getElem_toArray, List.getElem_cons_zero, List.getElem_cons_succ, List.setIfInBounds_toArray, List.set_cons_zero, List.set_cons_succ]
                                              refine' wpAnyH_take (i := 28) (oi := _) (v := _) rfl (by kernel_rfl) (by kernel_rfl) (by kernel_rfl) (fun _ _ _ h => h) (Or.inl ⟨by rfl, ?hy⟩) (by assumption) ?rest
                                              case hy => (intro w hSw; (try dsimp only at hSw); go_simp; try (with_reducible rfl))
                                              case rest =>
                                                try simp only [Act.put, List.getElem_toArray, List.getElem_cons_zero, List.getElem_cons_succ, List.setIfInBounds_toArray, List.set_cons_zero, List.set_cons_succ]
                                                refine' wpAnyH_take (i := 29) (oi := _) (v := _) rfl (by kernel_rfl) (by kernel_rfl) (by kernel_rfl) (fun _ _ _ h => h) (Or.inl ⟨by rfl, ?hy⟩) (by assumption) ?rest
                                                case hy => (intro w hSw; (try dsimp only at hSw); go_simp; try (with_reducible rfl))
                                                case rest =>
                                                  try simp only [Act.put, List.getElem_toArray, List.getElem_cons_zero, List.getElem_cons_succ, List.setIfInBounds_toArray, List.set_cons_zero, List.set_cons_succ]
                                                  refine' wpAnyH_take (i := 31) (oi := _) (v := _) rfl (by kernel_rfl) (by kernel_rfl) (by kernel_rfl) (fun _ _ _ h => h) (Or.inl ⟨by rfl, ?hy⟩) (by assumption) ?rest
                                                  case hy => (intro w hSw; (try dsimp only at hSw); go_simp; try (with_reducible rfl))
                                                  case rest =>
                                                    try simp only [Act.put, List.getElem_toArray, List.getElem_cons_zero, List.getElem_cons_succ, List.setIfInBounds_toArray, List.set_cons_zero, List.set_cons_succ]
                                                    refine' wpAnyH_take (i := 32) (oi := _) (v := _) rfl (by kernel_rfl) (by kernel_rfl) (by kernel_rfl) (fun _ _ _ h => h) (Or.inl ⟨by rfl, ?hy⟩) (by assumption) ?rest
                                                    case hy => (intro w hSw; (try dsimp only at hSw); go_simp; try (with_reducible rfl))
                                                    case rest =>
                                                      try simp only [Act.put, List.getElem_toArray, List.getElem_cons_zero, List.getElem_cons_succ, List.setIfInBounds_toArray, List.set_cons_zero, List.set_cons_succ]
                                                      refine' wpAnyH_take (i := 33) (oi := _) (v := _) rfl (by kernel_rfl) (by kernel_rfl) (by kernel_rfl) (fun _ _ _ h => h) (Or.inl ⟨by rfl, ?hy⟩) (by assumption) ?rest
                                                      case hy => (intro w hSw; (try dsimp only at hSw); go_simp; try (with_reducible rfl))
                                                      case rest =>
                                                        try simp only [Act.put, List.getElem_toArray, List.getElem_cons_zero, List.getElem_cons_succ, List.setIfInBounds_toArray, List.set_cons_zero, List.set_cons_succ]
                                                        refine' wpAnyH_take (i := 34) (oi := _) (v := _) rfl (by kernel_rfl) (by kernel_rfl) (by kernel_rfl) (fun _ _ _ h => h) (Or.inl ⟨by rfl, ?hy⟩) (by assumption) ?rest
                                                        case hy => (intro w hSw; (try dsimp only at hSw); go_simp; try (with_reducible rfl))
                                                        case rest =>
                                                          try simp only [Act.put, List.getElem_toArray, List.getElem_cons_zero, List.getElem_cons_succ, List.setIfInBounds_toArray, List.set_cons_zero, List.set_cons_succ]
                                                          refine' wpAnyH_take (i := 35) (oi := _) (v := _) rfl (by kernel_rfl) (by kernel_rfl) (by kernel_rfl) (fun _ _ _ h => h) (Or.inl ⟨by rfl, ?hy⟩) (by assumption) ?rest
                                                          case hy => (intro w hSw; (try dsimp only at hSw); go_simp; try (with_reducible rfl))
                                                          case rest =>
                                                            try simp only [Act.put, List.getElem_toArray, List.getElem_cons_zero, List.getElem_cons_succ, List.setIfInBounds_toArray, List.set_cons_zero, List.set_cons_succ]
                                                            refine wpAnyH_ready (rs := [30]) (by kernel_rfl) (by simp) ?_
                                                            refine AllReadyH.cons (o := _) rfl (fun K hK => ?_) AllReadyH.nil
                                                            go_simp
                                                            (go_at_call 17; (with_reducible refine (C3.out _ (HH.out.drew)).mono ?_); rintro e uC3 ⟨rfl, g2⟩; have xC3 : (uC3.cell? ⟨b2, off2 + k * 5, none⟩ = some (.int .i64 k2.op) ∧ uC3.cell? ⟨b2, off2 + k * 5 + 1, none⟩ = some (.string ⟨k2.name.toArray⟩) ∧ uC3.cell? ⟨b2, off2 + k * 5 + 2, none⟩ = some (.slice bA2 k2.b.length bc2) ∧ uC3.cell? ⟨b2, off2 + k * 5 + 3, none⟩ = some (.int .i64 k2.n) ∧ uC3.cell? ⟨b2, off2 + k * 5 + 4, none⟩ = some (.slice kA2 k2.keep.length kc2)) := FC2.out _ _ g2; have GC3 := hid g2; clear g2)
                                                            refine hK.out _ _ (by first | exact x0 | exact xC3 | exact xC4) (fun hHeld => ?_)
                                                            clear hK K
                                                            try simp only [Act.put, List.getElem_toArray, List.getElem_cons_zero, List.getElem_cons_succ, List.setIfInBounds_toArray, List.set_cons_zero, List.set_cons_succ]
                                                            refine wpAnyH_ready (rs := [36]) (by kernel_rfl) (by simp) ?_
                                                            refine AllReadyH.cons (o := _) rfl (fun K hK => ?_) AllReadyH.nil
                                                            go_simp
                                                            (go_at_call 17; (with_reducible refine (C4.out _ (GC3.out.pull2)).mono ?_); rintro e uC4 ⟨rfl, g2⟩; have xC4 : (uC4.cell? ⟨b2, off2 + k * 5, none⟩ = some (.int .i64 k2.op) ∧ uC4.cell? ⟨b2, off2 + k * 5 + 1, none⟩ = some (.string ⟨k2.name.toArray⟩) ∧ uC4.cell? ⟨b2, off2 + k * 5 + 2, none⟩ = some (.slice bA2 k2.b.length bc2) ∧ uC4.cell? ⟨b2, off2 + k * 5 + 3, none⟩ = some (.int .i64 k2.n) ∧ uC4.cell? ⟨b2, off2 + k * 5 + 4, none⟩ = some (.slice kA2 k2.keep.length kc2)) := FC2.out _ _ g2; have GC4 := hid g2; clear g2)
                                                            refine hK.out _ _ (by first | exact x0 | exact xC3 | exact xC4) (fun hHeld => ?_)
                                                            clear hK K
                                                            try simp only [Act.put, List.getElem_toArray, List.getElem_cons_zero, List.getElem_cons_succ, List.setIfInBounds_toArray, List.set_cons_zero, List.set_cons_succ]
                                                            refine' wpAnyH_take (i := 37) (oi := _) (v := _) rfl (by kernel_rfl) (by kernel_rfl) (by kernel_rfl) (fun _ _ _ h => h) (Or.inl ⟨by rfl, ?hy⟩) (by assumption) ?rest
                                                            case hy => (intro w hSw; (try dsimp only at hSw); go_simp; try (with_reducible rfl))
                                                            case rest =>
                                                              try simp only [Act.put, List.getElem_toArray, List.getElem_cons_zero, List.getElem_cons_succ, List.setIfInBounds_toArray, List.set_cons_zero, List.set_cons_succ]
                                                              refine' wpAnyH_take (i := 38) (oi := _) (v := _) rfl (by kernel_rfl) (by kernel_rfl) (by kernel_rfl) (fun _ _ _ h => h) (Or.inl ⟨by rfl, ?hy⟩) (by assumption) ?rest
                                                              case hy => (intro w hSw; (try dsimp only at hSw); go_simp; try (with_reducible rfl))
                                                              case rest =>
                                                                try simp only [Act.put, List.getElem_toArray, List.getElem_cons_zero, List.getElem_cons_succ, List.setIfInBounds_toArray, List.set_cons_zero, List.set_cons_succ]
                                                                refine' wpAnyH_take (i := 39) (oi := _) (v := _) rfl (by kernel_rfl) (by kernel_rfl) (by kernel_rfl) (fun _ _ _ h => h) (Or.inl ⟨by rfl, ?hy⟩) (by assumption) ?rest
                                                                case hy => (intro w hSw; (try dsimp only at hSw); go_simp; try (with_reducible rfl))
                                                                case rest =>
                                                                  try simp only [Act.put, List.getElem_toArray, List.getElem_cons_zero, List.getElem_cons_succ, List.setIfInBounds_toArray, List.set_cons_zero, List.set_cons_succ]
                                                                  refine wpAnyH_done (by kernel_rfl) ?_ _
                                                                  all_goals
                                                                    have G9 := hid (show TwinAt w p q pe pf d one two (k + 1) _ from by unfold TwinAt; rw [SS1.out, SS2.out]; exact GC4.out.pull3.pull1.pull3.pull3)
                                                                    go_wp2_with fail
                                                                    exact ⟨⟨k + 1, by omega, by simp, G9.out⟩, by show two.length - ((k : Int) + 1).toNat < two.length - (k : Int).toNat; omega⟩
            · have hkk : k = two.length := by omega
              have e1 : d.calls (one.take k) = d.calls one := by rw [List.take_of_length_le (by omega)]
              have e2 : d.calls (two.take k) = d.calls two := by rw [List.take_of_length_le (by omega)]
              unfold TwinAt at hh
              rw [e1, e2] at hh
              have A1 := calls_take HO.out.1 HO.out.2 hb1 one.length
              have A2 := calls_take HO.out.1 HO.out.2 hb2 two.length
              rw [List.take_length] at A1 A2
              have HA := hid (And.intro A1 A2)
              clear e1 e2 hkk A1 A2
              have E1 := hid (same_held (hh.pull3.pull2) HA.out.1.1 HA.out.1.1 (Alike.refl _) (by have := HA.out.1.2.seen; omega))
              clear hh
              go_wp2_with fail
              refine E1.out.mono ?_
              rintro e w9 ⟨rfl, g⟩
              -- q, pe, p, pf
              have E2 := hid (same_held (g.pull3.pull3) HA.out.2.1 HA.out.2.1 (Alike.refl _) (by have := HA.out.2.2.seen; omega))
              clear g E1
              go_wp2_with fail
              refine E2.out.mono ?_
              rintro e w10 ⟨rfl, g⟩
              -- p, pf, q, pe
              have P1 := hid (pending_held g.pull2)
              have P2 := hid (pending_held g.pull3)
              have P3 := hid (pending_held g)
              have P4 := hid (pending_held g.pull1)
              generalize (d.calls one).pending.length = n1 at *
              generalize (d.calls two).pending.length = n2 at *
              have G := hid g
              clear g E2
              go_wp2_with fail
              refine P1.out.mono ?_
              rintro e w11 ⟨rfl, rfl⟩
              clear P1
              go_wp2_with fail
              refine P2.out.mono ?_
              rintro e w11 ⟨rfl, rfl⟩
              clear P2
              go_wp2_with fail
              refine P3.out.mono ?_
              rintro e w11 ⟨rfl, rfl⟩
              clear P3
              go_wp2_with fail
              refine P4.out.mono ?_
              rintro e w11 ⟨rfl, rfl⟩
              clear P4
              go_wp2_with fail
              refine (awake_any _).mono ?_
              rintro e w11 ⟨rfl, hm⟩
              go_wp2_with fail
              go_ret
              exact ⟨rfl, (G.out.step hm).below⟩
        · have hmx : max (one.length : Int) (two.length : Int) = (one.length : Int) := by omega
          go_wp2_with fail
          go_loopw [80] (fun iv wr => ∃ k : Nat, k ≤ one.length ∧ iv = .int .i64 k ∧ TwinAt w p q pe pf d one two k wr) (fun iv _ => one.length - (intOf iv).toNat)
          case atStart => exact ⟨0, Nat.zero_le _, rfl, T0.out⟩
          case round =>
            obtain ⟨k, hk, rfl, hh⟩ := hrel
            clear T0
            by_cases hlt : k < one.length
            · have K1 := hid (calls_take HO.out.1 HO.out.2 hb1 k)
              have K2 := hid (calls_take HO.out.1 HO.out.2 hb2 k)
              by_cases hlo : k < two.length
              · unfold TwinAt at hh
                have n1 := HB1.out.2 one[k] (List.getElem_mem hlt)
                have s1 := calls_succ (d := d) hlt
                obtain ⟨b1, off1, bA1, bc1, kA1, kc1, hA1, -, c0, c1, c2, c3, c4, hat1⟩ := (HK.out.1).at hlt
                obtain ⟨k1, hk1⟩ : ∃ kd, kd = one[k] := ⟨_, rfl⟩
                rw [← hk1] at n1 s1 c0 c1 c2 c3 c4 hat1
                unfold sv at c1
                subst hA1
                have FC1 := hid (fun (w' : World) (Rs : List Res) (g : Held w w' Rs) => (show w'.cell? ⟨b1, off1 + k * 5, none⟩ = some (.int .i64 k1.op) ∧ w'.cell? ⟨b1, off1 + k * 5 + 1, none⟩ = some (.string ⟨k1.name.toArray⟩) ∧ w'.cell? ⟨b1, off1 + k * 5 + 2, none⟩ = some (.slice bA1 k1.b.length bc1) ∧ w'.cell? ⟨b1, off1 + k * 5 + 3, none⟩ = some (.int .i64 k1.n) ∧ w'.cell? ⟨b1, off1 + k * 5 + 4, none⟩ = some (.slice kA1 k1.keep.length kc1) from ⟨g.mod.cell c0 (fun h => h), g.mod.cell c1 (fun h => h), g.mod.cell c2 (fun h => h), g.mod.cell c3 (fun h => h), g.mod.cell c4 (fun h => h)⟩))
                have HAT1 := hid hat1
                have N1 := hid n1
                clear c0 c1 c2 c3 c4 hat1 n1 hk1
                obtain ⟨d1, hd1⟩ : ∃ e, e = d.calls (one.take k) := ⟨_, rfl⟩
                rw [← hd1] at hh s1 K1
                obtain ⟨d1', hd1'⟩ : ∃ e, e = (d1.call k1).1 := ⟨_, rfl⟩
                obtain ⟨r1, hr1⟩ : ∃ r, r = (d1.call k1).2 := ⟨_, rfl⟩
                rw [← hd1'] at s1
                have SS1 := hid s1
                clear hd1 s1
                have n2 := HB2.out.2 two[k] (List.getElem_mem hlo)
                have s2 := calls_succ (d := d) hlo
                obtain ⟨b2, off2, bA2, bc2, kA2, kc2, hA2, -, c0, c1, c2, c3, c4, hat2⟩ := (HK.out.2.1).at hlo
                obtain ⟨k2, hk2⟩ : ∃ kd, kd = two[k] := ⟨_, rfl⟩
                rw [← hk2] at n2 s2 c0 c1 c2 c3 c4 hat2
                unfold sv at c1
                subst hA2
                have FC2 := hid (fun (w' : World) (Rs : List Res) (g : Held w w' Rs) => (show w'.cell? ⟨b2, off2 + k * 5, none⟩ = some (.int .i64 k2.op) ∧ w'.cell? ⟨b2, off2 + k * 5 + 1, none⟩ = some (.string ⟨k2.name.toArray⟩) ∧ w'.cell? ⟨b2, off2 + k * 5 + 2, none⟩ = some (.slice bA2 k2.b.length bc2) ∧ w'.cell? ⟨b2, off2 + k * 5 + 3, none⟩ = some (.int .i64 k2.n) ∧ w'.cell? ⟨b2, off2 + k * 5 + 4, none⟩ = some (.slice kA2 k2.keep.length kc2) from ⟨g.mod.cell c0 (fun h => h), g.mod.cell c1 (fun h => h), g.mod.cell c2 (fun h => h), g.mod.cell c3 (fun h => h), g.mod.cell c4 (fun h => h)⟩))
                have HAT2 := hid hat2
                have N2 := hid n2
                clear c0 c1 c2 c3 c4 hat2 n2 hk2
                obtain ⟨d2, hd2⟩ : ∃ e, e = d.calls (two.take k) := ⟨_, rfl⟩
                rw [← hd2] at hh s2 K2
                obtain ⟨d2', hd2'⟩ : ∃ e, e = (d2.call k2).1 := ⟨_, rfl⟩
                obtain ⟨r2, hr2⟩ : ∃ r, r = (d2.call k2).2 := ⟨_, rfl⟩
                rw [← hd2'] at s2
                have SS2 := hid s2
                clear hd2 s2
                have C1 := hid (fun (w' : World) (g : Held w w' (rDisk q d1 :: [rDisk p d2, rDisk pf d2, rDisk pe d1])) => does_held g K1.out.1 (by have := K1.out.2.rest; omega) k1 HAT1.out.wf bA1 kA1 bc1 kc1 (src_old HAT1.out.b) (src_old HAT1.out.keep) (by have := N1.out; omega))
                rw [← hd1', ← hr1] at C1
                unfold sv at C1
                have C2 := hid (fun (w' : World) (g : Held w w' (rDisk pe d1 :: [rDisk q d1', rDisk p d2, rDisk pf d2])) => does_held g K1.out.1 (by have := K1.out.2.rest; omega) k1 HAT1.out.wf bA1 kA1 bc1 kc1 (src_old HAT1.out.b) (src_old HAT1.out.keep) (by have := N1.out; omega))
                rw [← hd1', ← hr1] at C2
                unfold sv at C2
                have C3 := hid (fun (w' : World) (g : Held w w' (rDisk p d2 :: [rDisk pe d1', rDisk q d1', rDisk pf d2])) => does_held g K2.out.1 (by have := K2.out.2.rest; omega) k2 HAT2.out.wf bA2 kA2 bc2 kc2 (src_old HAT2.out.b) (src_old HAT2.out.keep) (by have := N2.out; omega))
                rw [← hd2', ← hr2] at C3
                unfold sv at C3
                have C4 := hid (fun (w' : World) (g : Held w w' (rDisk pf d2 :: [rDisk p d2', rDisk pe d1', rDisk q d1'])) => does_held g K2.out.1 (by have := K2.out.2.rest; omega) k2 HAT2.out.wf bA2 kA2 bc2 kc2 (src_old HAT2.out.b) (src_old HAT2.out.keep) (by have := N2.out; omega))
                rw [← hd2', ← hr2] at C4
                unfold sv at C4
                have HH := hid hh
                have x0 : (wr.drew.cell? ⟨b1, off1 + k * 5, none⟩ = some (.int .i64 k1.op) ∧ wr.drew.cell? ⟨b1, off1 + k * 5 + 1, none⟩ = some (.string ⟨k1.name.toArray⟩) ∧ wr.drew.cell? ⟨b1, off1 + k * 5 + 2, none⟩ = some (.slice bA1 k1.b.length bc1) ∧ wr.drew.cell? ⟨b1, off1 + k * 5 + 3, none⟩ = some (.int .i64 k1.n) ∧ wr.drew.cell? ⟨b1, off1 + k * 5 + 4, none⟩ = some (.slice kA1 k1.keep.length kc1)) ∧ (wr.drew.cell? ⟨b2, off2 + k * 5, none⟩ = some (.int .i64 k2.op) ∧ wr.drew.cell? ⟨b2, off2 + k * 5 + 1, none⟩ = some (.string ⟨k2.name.toArray⟩) ∧ wr.drew.cell? ⟨b2, off2 + k * 5 + 2, none⟩ = some (.slice bA2 k2.b.length bc2) ∧ wr.drew.cell? ⟨b2, off2 + k * 5 + 3, none⟩ = some (.int .i64 k2.n) ∧ wr.drew.cell? ⟨b2, off2 + k * 5 + 4, none⟩ = some (.slice kA2 k2.keep.length kc2)) := ⟨FC1.out _ _ hh.drew, FC2.out _ _ hh.drew⟩
                clear hh hd1' hr1 hd2' hr2
                have hk0 : (0 : Int) ≤ (k : Int) := by omega
                have hi1 : (k : Int) < (one.length : Int) := by omega
                have hj1 : decide (k < one.length) = true := by simp; omega
                have hi2 : (k : Int) < (two.length : Int) := by omega
                have hj2 : decide (k < two.length) = true := by simp; omega
                go_wp2_with fail
                go_region_held3 (fun w' => (w'.cell? ⟨b1, off1 + k * 5, none⟩ = some (.int .i64 k1.op) ∧ w'.cell? ⟨b1, off1 + k * 5 + 1, none⟩ = some (.string ⟨k1.name.toArray⟩) ∧ w'.cell? ⟨b1, off1 + k * 5 + 2, none⟩ = some (.slice bA1 k1.b.length bc1) ∧ w'.cell? ⟨b1, off1 + k * 5 + 3, none⟩ = some (.int .i64 k1.n) ∧ w'.cell? ⟨b1, off1 + k * 5 + 4, none⟩ = some (.slice kA1 k1.keep.length kc1)) ∧ (w'.cell? ⟨b2, off2 + k * 5, none⟩ = some (.int .i64 k2.op) ∧ w'.cell? ⟨b2, off2 + k * 5 + 1, none⟩ = some (.string ⟨k2.name.toArray⟩) ∧ w'.cell? ⟨b2, off2 + k * 5 + 2, none⟩ = some (.slice bA2 k2.b.length bc2) ∧ w'.cell? ⟨b2, off2 + k * 5 + 3, none⟩ = some (.int .i64 k2.n) ∧ w'.cell? ⟨b2, off2 + k * 5 + 4, none⟩ = some (.slice kA2 k2.keep.length kc2)))
                  (first | exact x0 | exact xC1 | exact xC2 | exact xC3 | exact xC4)
                  (first
                    | (go_at_call 17; (with_reducible refine (C1.out _ (HH.out.drew.pull1)).mono ?_); rintro e uC1 ⟨rfl, g2⟩; have xC1 : (uC1.cell? ⟨b1, off1 + k * 5, none⟩ = some (.int .i64 k1.op) ∧ uC1.cell? ⟨b1, off1 + k * 5 + 1, none⟩ = some (.string ⟨k1.name.toArray⟩) ∧ uC1.cell? ⟨b1, off1 + k * 5 + 2, none⟩ = some (.slice bA1 k1.b.length bc1) ∧ uC1.cell? ⟨b1, off1 + k * 5 + 3, none⟩ = some (.int .i64 k1.n) ∧ uC1.cell? ⟨b1, off1 + k * 5 + 4, none⟩ = some (.slice kA1 k1.keep.length kc1)) ∧ (uC1.cell? ⟨b2, off2 + k * 5, none⟩ = some (.int .i64 k2.op) ∧ uC1.cell? ⟨b2, off2 + k * 5 + 1, none⟩ = some (.string ⟨k2.name.toArray⟩) ∧ uC1.cell? ⟨b2, off2 + k * 5 + 2, none⟩ = some (.slice bA2 k2.b.length bc2) ∧ uC1.cell? ⟨b2, off2 + k * 5 + 3, none⟩ = some (.int .i64 k2.n) ∧ uC1.cell? ⟨b2, off2 + k * 5 + 4, none⟩ = some (.slice kA2 k2.keep.length kc2)) := ⟨FC1.out _ _ g2, FC2.out _ _ g2⟩; have GC1 := hid g2; clear g2)
                    | (go_at_call 17; (with_reducible refine (C2.out _ (GC1.out.pull3)).mono ?_); rintro e uC2 ⟨rfl, g2⟩; have xC2 : (uC2.cell? ⟨b1, off1 + k * 5, none⟩ = some (.int .i64 k1.op) ∧ uC2.cell? ⟨b1, off1 + k * 5 + 1, none⟩ = some (.string ⟨k1.name.toArray⟩) ∧ uC2.cell? ⟨b1, off1 + k * 5 + 2, none⟩ = some (.slice bA1 k1.b.length bc1) ∧ uC2.cell? ⟨b1, off1 + k * 5 + 3, none⟩ = some (.int .i64 k1.n) ∧ uC2.cell? ⟨b1, off1 + k * 5 + 4, none⟩ = some (.slice kA1 k1.keep.length kc1)) ∧ (uC2.cell? ⟨b2, off2 + k * 5, none⟩ = some (.int .i64 k2.op) ∧ uC2.cell? ⟨b2, off2 + k * 5 + 1, none⟩ = some (.string ⟨k2.name.toArray⟩) ∧ uC2.cell? ⟨b2, off2 + k * 5 + 2, none⟩ = some (.slice bA2 k2.b.length bc2) ∧ uC2.cell? ⟨b2, off2 + k * 5 + 3, none⟩ = some (.int .i64 k2.n) ∧ uC2.cell? ⟨b2, off2 + k * 5 + 4, none⟩ = some (.slice kA2 k2.keep.length kc2)) := ⟨FC1.out _ _ g2, FC2.out _ _ g2⟩; have GC2 := hid g2; clear g2)
                    | (go_at_call 17; (with_reducible refine (C3.out _ (GC2.out.pull2)).mono ?_); rintro e uC3 ⟨rfl, g2⟩; have xC3 : (uC3.cell? ⟨b1, off1 + k * 5, none⟩ = some (.int .i64 k1.op) ∧ uC3.cell? ⟨b1, off1 + k * 5 + 1, none⟩ = some (.string ⟨k1.name.toArray⟩) ∧ uC3.cell? ⟨b1, off1 + k * 5 + 2, none⟩ = some (.slice bA1 k1.b.length bc1) ∧ uC3.cell? ⟨b1, off1 + k * 5 + 3, none⟩ = some (.int .i64 k1.n) ∧ uC3.cell? ⟨b1, off1 + k * 5 + 4, none⟩ = some (.slice kA1 k1.keep.length kc1)) ∧ (uC3.cell? ⟨b2, off2 + k * 5, none⟩ = some (.int .i64 k2.op) ∧ uC3.cell? ⟨b2, off2 + k * 5 + 1, none⟩ = some (.string ⟨k2.name.toArray⟩) ∧ uC3.cell? ⟨b2, off2 + k * 5 + 2, none⟩ = some (.slice bA2 k2.b.length bc2) ∧ uC3.cell? ⟨b2, off2 + k * 5 + 3, none⟩ = some (.int .i64 k2.n) ∧ uC3.cell? ⟨b2, off2 + k * 5 + 4, none⟩ = some (.slice kA2 k2.keep.length kc2)) := ⟨FC1.out _ _ g2, FC2.out _ _ g2⟩; have GC3 := hid g2; clear g2)
                    | (go_at_call 17; (with_reducible refine (C4.out _ (GC3.out.pull3)).mono ?_); rintro e uC4 ⟨rfl, g2⟩; have xC4 : (uC4.cell? ⟨b1, off1 + k * 5, none⟩ = some (.int .i64 k1.op) ∧ uC4.cell? ⟨b1, off1 + k * 5 + 1, none⟩ = some (.string ⟨k1.name.toArray⟩) ∧ uC4.cell? ⟨b1, off1 + k * 5 + 2, none⟩ = some (.slice bA1 k1.b.length bc1) ∧ uC4.cell? ⟨b1, off1 + k * 5 + 3, none⟩ = some (.int .i64 k1.n) ∧ uC4.cell? ⟨b1, off1 + k * 5 + 4, none⟩ = some (.slice kA1 k1.keep.length kc1)) ∧ (uC4.cell? ⟨b2, off2 + k * 5, none⟩ = some (.int .i64 k2.op) ∧ uC4.cell? ⟨b2, off2 + k * 5 + 1, none⟩ = some (.string ⟨k2.name.toArray⟩) ∧ uC4.cell? ⟨b2, off2 + k * 5 + 2, none⟩ = some (.slice bA2 k2.b.length bc2) ∧ uC4.cell? ⟨b2, off2 + k * 5 + 3, none⟩ = some (.int .i64 k2.n) ∧ uC4.cell? ⟨b2, off2 + k * 5 + 4, none⟩ = some (.slice kA2 k2.keep.length kc2)) := ⟨FC1.out _ _ g2, FC2.out _ _ g2⟩; have GC4 := hid g2; clear g2))
                all_goals
                  have G9 := hid (show TwinAt w p q pe pf d one two (k + 1) _ from by unfold TwinAt; rw [SS1.out, SS2.out]; exact GC4.out.pull2.pull1.pull3.pull3)
                  go_wp2_with fail
                  exact ⟨⟨k + 1, by omega, by simp, G9.out⟩, by show one.length - ((k : Int) + 1).toNat < one.length - (k : Int).toNat; omega⟩
              · unfold TwinAt at hh
                have n1 := HB1.out.2 one[k] (List.getElem_mem hlt)
                have s1 := calls_succ (d := d) hlt
                obtain ⟨b1, off1, bA1, bc1, kA1, kc1, hA1, -, c0, c1, c2, c3, c4, hat1⟩ := (HK.out.1).at hlt
                obtain ⟨k1, hk1⟩ : ∃ kd, kd = one[k] := ⟨_, rfl⟩
                rw [← hk1] at n1 s1 c0 c1 c2 c3 c4 hat1
                unfold sv at c1
                subst hA1
                have FC1 := hid (fun (w' : World) (Rs : List Res) (g : Held w w' Rs) => (show w'.cell? ⟨b1, off1 + k * 5, none⟩ = some (.int .i64 k1.op) ∧ w'.cell? ⟨b1, off1 + k * 5 + 1, none⟩ = some (.string ⟨k1.name.toArray⟩) ∧ w'.cell? ⟨b1, off1 + k * 5 + 2, none⟩ = some (.slice bA1 k1.b.length bc1) ∧ w'.cell? ⟨b1, off1 + k * 5 + 3, none⟩ = some (.int .i64 k1.n) ∧ w'.cell? ⟨b1, off1 + k * 5 + 4, none⟩ = some (.slice kA1 k1.keep.length kc1) from ⟨g.mod.cell c0 (fun h => h), g.mod.cell c1 (fun h => h), g.mod.cell c2 (fun h => h), g.mod.cell c3 (fun h => h), g.mod.cell c4 (fun h => h)⟩))
                have HAT1 := hid hat1
                have N1 := hid n1
                clear c0 c1 c2 c3 c4 hat1 n1 hk1
                obtain ⟨d1, hd1⟩ : ∃ e, e = d.calls (one.take k) := ⟨_, rfl⟩
                rw [← hd1] at hh s1 K1
                obtain ⟨d1', hd1'⟩ : ∃ e, e = (d1.call k1).1 := ⟨_, rfl⟩
                obtain ⟨r1, hr1⟩ : ∃ r, r = (d1.call k1).2 := ⟨_, rfl⟩
                rw [← hd1'] at s1
                have SS1 := hid s1
                clear hd1 s1
                have s2 := calls_over (d := d) (l := two) (k := k) (by omega)
                obtain ⟨d2, hd2⟩ : ∃ e, e = d.calls (two.take k) := ⟨_, rfl⟩
                rw [← hd2] at hh s2 K2
                have SS2 := hid s2
                clear hd2 s2
                have C1 := hid (fun (w' : World) (g : Held w w' (rDisk q d1 :: [rDisk p d2, rDisk pf d2, rDisk pe d1])) => does_held g K1.out.1 (by have := K1.out.2.rest; omega) k1 HAT1.out.wf bA1 kA1 bc1 kc1 (src_old HAT1.out.b) (src_old HAT1.out.keep) (by have := N1.out; omega))
                rw [← hd1', ← hr1] at C1
                unfold sv at C1
                have C2 := hid (fun (w' : World) (g : Held w w' (rDisk pe d1 :: [rDisk q d1', rDisk p d2, rDisk pf d2])) => does_held g K1.out.1 (by have := K1.out.2.rest; omega) k1 HAT1.out.wf bA1 kA1 bc1 kc1 (src_old HAT1.out.b) (src_old HAT1.out.keep) (by have := N1.out; omega))
                rw [← hd1', ← hr1] at C2
                unfold sv at C2
                have HH := hid hh
                have x0 : (wr.drew.cell? ⟨b1, off1 + k * 5, none⟩ = some (.int .i64 k1.op) ∧ wr.drew.cell? ⟨b1, off1 + k * 5 + 1, none⟩ = some (.string ⟨k1.name.toArray⟩) ∧ wr.drew.cell? ⟨b1, off1 + k * 5 + 2, none⟩ = some (.slice bA1 k1.b.length bc1) ∧ wr.drew.cell? ⟨b1, off1 + k * 5 + 3, none⟩ = some (.int .i64 k1.n) ∧ wr.drew.cell? ⟨b1, off1 + k * 5 + 4, none⟩ = some (.slice kA1 k1.keep.length kc1)) := FC1.out _ _ hh.drew
                clear hh hd1' hr1
                have hk0 : (0 : Int) ≤ (k : Int) := by omega
                have hi1 : (k : Int) < (one.length : Int) := by omega
                have hj1 : decide (k < one.length) = true := by simp; omega
                have hj2 : decide (k < two.length) = false := by simp; omega
                go_wp2_with fail
                refine wp_region_held_drew (S := fun w' => (w'.cell? ⟨b1, off1 + k * 5, none⟩ = some (.int .i64 k1.op) ∧ w'.cell? ⟨b1, off1 + k * 5 + 1, none⟩ = some (.string ⟨k1.name.toArray⟩) ∧ w'.cell? ⟨b1, off1 + k * 5 + 2, none⟩ = some (.slice bA1 k1.b.length bc1) ∧ w'.cell? ⟨b1, off1 + k * 5 + 3, none⟩ = some (.int .i64 k1.n) ∧ w'.cell? ⟨b1, off1 + k * 5 + 4, none⟩ = some (.slice kA1 k1.keep.length kc1))) (by kernel_rfl) (by exact x0) (fun hHeld => ?_)
                refine' wpAnyH_take (i := 0) (oi := _) (v := _) rfl (by kernel_rfl) (by kernel_rfl) (by kernel_rfl) (fun _ _ _ h => h) (Or.inl ⟨by rfl, ?hy⟩) (by assumption) ?rest
                case hy => (intro w hSw; (try dsimp only at hSw); go_simp; try (with_reducible rfl))
                case rest =>
                  try simp only [Act.put, List.getElem_toArray, List.getElem_cons_zero, List.getElem_cons_succ, List.setIfInBounds_toArray, List.set_cons_zero, List.set_cons_succ]
                  refine' wpAnyH_take (i := 1) (oi := _) (v := _) rfl (by kernel_rfl) (by kernel_rfl) (by kernel_rfl) (fun _ _ _ h => h) (Or.inl ⟨by rfl, ?hy⟩) (by assumption) ?rest
                  case hy => (intro w hSw; (try dsimp only at hSw); go_simp; try (with_reducible rfl))
                  case rest =>
                    try simp only [Act.put, List.getElem_toArray, List.getElem_cons_zero, List.getElem_cons_succ, List.setIfInBounds_toArray, List.set_cons_zero, List.set_cons_succ]
                    refine' wpAnyH_take (i := 2) (oi := _) (v := _) rfl (by kernel_rfl) (by kernel_rfl) (by kernel_rfl) (fun _ _ _ h => h) (Or.inl ⟨by rfl, ?hy⟩) (by assumption) ?rest
                    case hy => (intro w hSw; (try dsimp only at hSw); go_simp; try (with_reducible rfl))
                    case rest =>
                      try simp only [Act.put, List.getElem_toArray, List.getElem_cons_zero, List.getElem_cons_succ, List.setIfInBounds_toArray, List.set_cons_zero, List.set_cons_succ]
                      refine' wpAnyH_take (i := 3) (oi := _) (v := _) rfl (by kernel_rfl) (by kernel_rfl) (by kernel_rfl) (fun _ _ _ h => h) (Or.inl ⟨by rfl, ?hy⟩) (by assumption) ?rest
                      case hy => (intro w hSw; (try dsimp only at hSw); go_simp; try (with_reducible rfl))
                      case rest =>
                        try simp only [Act.put, List.getElem_toArray, List.getElem_cons_zero, List.getElem_cons_succ, List.setIfInBounds_toArray, List.set_cons_zero, List.set_cons_succ]
                        refine' wpAnyH_take (i := 4) (oi := _) (v := _) rfl (by kernel_rfl) (by kernel_rfl) (by kernel_rfl) (fun _ _ _ h => h) (Or.inl ⟨by rfl, ?hy⟩) (by assumption) ?rest
                        case hy => (intro w hSw; (try dsimp only at hSw); go_simp; try (with_reducible rfl))
                        case rest =>
                          try simp only [Act.put, List.getElem_toArray, List.getElem_cons_zero, List.getElem_cons_succ, List.setIfInBounds_toArray, List.set_cons_zero, List.set_cons_succ]
                          refine' wpAnyH_take (i := 5) (oi := _) (v := _) rfl (by kernel_rfl) (by kernel_rfl) (by kernel_rfl) (fun _ _ _ h => h) (Or.inl ⟨by rfl, ?hy⟩) (by assumption) ?rest
                          case hy => (intro w hSw; (try dsimp only at hSw); go_simp; try (with_reducible rfl))
                          case rest =>
                            try simp only [Act.put, List.getElem_toArray, List.getElem_cons_zero, List.getElem_cons_succ, List.setIfInBounds_toArray, List.set_cons_zero, List.set_cons_succ]
                            refine' wpAnyH_take (i := 6) (oi := _) (v := _) rfl (by kernel_rfl) (by kernel_rfl) (by kernel_rfl) (fun _ _ _ h => h) (Or.inl ⟨by rfl, ?hy⟩) (by assumption) ?rest
                            case hy => (intro w hSw; (try dsimp only at hSw); go_simp; try (with_reducible rfl))
                            case rest =>
                              try simp only [Act.put, List.getElem_toArray, List.getElem_cons_zero, List.getElem_cons_succ, List.setIfInBounds_toArray, List.set_cons_zero, List.set_cons_succ]
                              refine' wpAnyH_take (i := 7) (oi := _) (v := _) rfl (by kernel_rfl) (by kernel_rfl) (by kernel_rfl) (fun _ _ _ h => h) (Or.inl ⟨by rfl, ?hy⟩) (by assumption) ?rest
                              case hy => (intro w hSw; (try dsimp only at hSw); go_simp; try (with_reducible rfl))
                              case rest =>
                                try simp only [Act.put, List.getElem_toArray, List.getElem_cons_zero, List.getElem_cons_succ, List.setIfInBounds_toArray, List.set_cons_zero, List.set_cons_succ]
                                refine' wpAnyH_take (i := 8) (oi := _) (v := _) rfl (by kernel_rfl) (by kernel_rfl) (by kernel_rfl) (fun _ _ _ h => h) (Or.inl ⟨by rfl, ?hy⟩) (by assumption) ?rest
                                case hy => (intro w hSw; (try dsimp only at hSw); go_simp; try (with_reducible rfl))
                                case rest =>
                                  try simp only [Act.put, List.getElem_toArray, List.getElem_cons_zero, List.getElem_cons_succ, List.setIfInBounds_toArray, List.set_cons_zero, List.set_cons_succ]
                                  refine' wpAnyH_take (i := 9) (oi := _) (v := _) rfl (by kernel_rfl) (by kernel_rfl) (by kernel_rfl) (fun _ _ _ h => h) (Or.inl ⟨by rfl, ?hy⟩) (by assumption) ?rest
                                  case hy => (intro w hSw; (try dsimp only at hSw); go_simp; try (with_reducible rfl))
                                  case rest =>
                                    try simp only [Act.put, List.getElem_toArray, List.getElem_cons_zero, List.getElem_cons_succ, List.setIfInBounds_toArray, List.set_cons_zero, List.set_cons_succ]
                                    refine' wpAnyH_take (i := 11) (oi := _) (v := _) rfl (by kernel_rfl) (by kernel_rfl) (by kernel_rfl) (fun _ _ _ h => h) (Or.inl ⟨by rfl, ?hy⟩) (by assumption) ?rest
                                    case hy => (intro w hSw; (try dsimp only at hSw); go_simp; try (with_reducible rfl))
                                    case rest =>
                                      try simp only [Act.put, List.getElem_toArray, List.getElem_cons_zero, List.getElem_cons_succ, List.setIfInBounds_toArray, List.set_cons_zero, List.set_cons_succ]
                                      refine' wpAnyH_take (i := 12) (oi := _) (v := _) rfl (by kernel_rfl) (by kernel_rfl) (by kernel_rfl) (fun _ _ _ h => h) (Or.inl ⟨by rfl, ?hy⟩) (by assumption) ?rest
                                      case hy => (intro w hSw; (try dsimp only at hSw); go_simp; try (with_reducible rfl))
                                      case rest =>
                                        try simp only [Act.put, List.getElem_toArray, List.getElem_cons_zero, List.getElem_cons_succ, List.setIfInBounds_toArray, List.set_cons_zero, List.set_cons_succ]
                                        refine' wpAnyH_take (i := 13) (oi := _) (v := _) rfl (by kernel_rfl) (by kernel_rfl) (by kernel_rfl) (fun _ _ _ h => h) (Or.inl ⟨by rfl, ?hy⟩) (by assumption) ?rest
                                        case hy => (intro w hSw; (try dsimp only at hSw); go_simp; try (with_reducible rfl))
                                        case rest =>
                                          try simp only [Act.put, List.getElem_toArray, List.getElem_cons_zero, List.getElem_cons_succ, List.setIfInBounds_toArray, List.set_cons_zero, List.set_cons_succ]
                                          refine' wpAnyH_take (i := 14) (oi := _) (v := _) rfl (by kernel_rfl) (by kernel_rfl) (by kernel_rfl) (fun _ _ _ h => h) (Or.inl ⟨by rfl, ?hy⟩) (by assumption) ?rest
                                          case hy => (intro w hSw; (try dsimp only at hSw); go_simp; try (with_reducible rfl))
                                          case rest =>
                                            try simp only [Act.put, List.getElem_toArray, List.getElem_cons_zero, List.getElem_cons_succ, List.setIfInBounds_toArray, List.set_cons_zero, List.set_cons_succ]
                                            refine' wpAnyH_take (i := 15) (oi := _) (v := _) rfl (by kernel_rfl) (by kernel_rfl) (by kernel_rfl) (fun _ _ _ h => h) (Or.inl ⟨by rfl, ?hy⟩) (by assumption) ?rest
                                            case hy => (intro w hSw; (try dsimp only at hSw); go_simp; try (with_reducible rfl))
                                            case rest =>
                                              try simp only [Act.put, List.getElem_toArray, List.getElem_cons_zero, List.getElem_cons_succ, List.setIfInBounds_toArray, List.set_cons_zero, List.set_cons_succ]
                                              refine wpAnyH_ready (rs := [10]) (by kernel_rfl) (by simp) ?_
                                              refine AllReadyH.cons (o := _) rfl (fun K hK => ?_) AllReadyH.nil
                                              go_simp
                                              (go_at_call 17; (with_reducible refine (C1.out _ (HH.out.drew.pull1)).mono ?_); rintro e uC1 ⟨rfl, g2⟩; have xC1 : (uC1.cell? ⟨b1, off1 + k * 5, none⟩ = some (.int .i64 k1.op) ∧ uC1.cell? ⟨b1, off1 + k * 5 + 1, none⟩ = some (.string ⟨k1.name.toArray⟩) ∧ uC1.cell? ⟨b1, off1 + k * 5 + 2, none⟩ = some (.slice bA1 k1.b.length bc1) ∧ uC1.cell? ⟨b1, off1 + k * 5 + 3, none⟩ = some (.int .i64 k1.n) ∧ uC1.cell? ⟨b1, off1 + k * 5 + 4, none⟩ = some (.slice kA1 k1.keep.length kc1)) := FC1.out _ _ g2; have GC1 := hid g2; clear g2)
                                              refine hK.out _ _ (by first | exact x0 | exact xC1 | exact xC2) (fun hHeld => ?_)
                                              clear hK K
                                              try simp only [Act.put, List.getElem_toArray, List.getElem_cons_zero, List.getElem_cons_succ, List.setIfInBounds_toArray, List.set_cons_zero, List.set_cons_succ]
                                              refine wpAnyH_ready (rs := [16]) (by kernel_rfl) (by simp) ?_
                                              refine AllReadyH.cons (o := _) rfl (fun K hK => ?_) AllReadyH.nil
                                              go_simp
                                              (go_at_call 17; (with_reducible refine (C2.out _ (GC1.out.pull3)).mono ?_); rintro e uC2 ⟨rfl, g2⟩; have xC2 : (uC2.cell? ⟨b1, off1 + k * 5, none⟩ = some (.int .i64 k1.op) ∧ uC2.cell? ⟨b1, off1 + k * 5 + 1, none⟩ = some (.string ⟨k1.name.toArray⟩) ∧ uC2.cell? ⟨b1, off1 + k * 5 + 2, none⟩ = some (.slice bA1 k1.b.length bc1) ∧ uC2.cell? ⟨b1, off1 + k * 5 + 3, none⟩ = some (.int .i64 k1.n) ∧ uC2.cell? ⟨b1, off1 + k * 5 + 4, none⟩ = some (.slice kA1 k1.keep.length kc1)) := FC1.out _ _ g2; have GC2 := hid g2; clear g2)
                                              refine hK.out _ _ (by first | exact x0 | exact xC1 | exact xC2) (fun hHeld => ?_)
                                              clear hK K
                                              try simp only [Act.put, List.getElem_toArray, List.getElem_cons_zero, List.getElem_cons_succ, List.setIfInBounds_toArray, List.set_cons_zero, List.set_cons_succ]
                                              refine' wpAnyH_take (i := 17) (oi := _) (v := _) rfl (by kernel_rfl) (by kernel_rfl) (by kernel_rfl) (fun _ _ _ h => h) (Or.inl ⟨by rfl, ?hy⟩) (by assumption) ?rest
                                              case hy => (intro w hSw; (try dsimp only at hSw); go_simp; try (with_reducible rfl))
                                              case rest =>
                                                try simp only [Act.put, List.getElem_toArray, List.getElem_cons_zero, List.getElem_cons_succ, List.setIfInBounds_toArray, List.set_cons_zero, List.set_cons_succ]
                                                refine' wpAnyH_take (i := 18) (oi := _) (v := _) rfl (by kernel_rfl) (by kernel_rfl) (by kernel_rfl) (fun _ _ _ h => h) (Or.inl ⟨by rfl, ?hy⟩) (by assumption) ?rest
                                                case hy => (intro w hSw; (try dsimp only at hSw); go_simp; try (with_reducible rfl))
                                                case rest =>
                                                  try simp only [Act.put, List.getElem_toArray, List.getElem_cons_zero, List.getElem_cons_succ, List.setIfInBounds_toArray, List.set_cons_zero, List.set_cons_succ]
                                                  refine' wpAnyH_take (i := 19) (oi := _) (v := _) rfl (by kernel_rfl) (by kernel_rfl) (by kernel_rfl) (fun _ _ _ h => h) (Or.inl ⟨by rfl, ?hy⟩) (by assumption) ?rest
                                                  case hy => (intro w hSw; (try dsimp only at hSw); go_simp; try (with_reducible rfl))
                                                  case rest =>
                                                    try simp only [Act.put, List.getElem_toArray, List.getElem_cons_zero, List.getElem_cons_succ, List.setIfInBounds_toArray, List.set_cons_zero, List.set_cons_succ]
                                                    refine' wpAnyH_take (i := 20) (oi := _) (v := _) rfl (by kernel_rfl) (by kernel_rfl) (by kernel_rfl) (fun _ _ _ h => h) (Or.inl ⟨by rfl, ?hy⟩) (by assumption) ?rest
                                                    case hy => (intro w hSw; (try dsimp only at hSw); go_simp; try (with_reducible rfl))
                                                    case rest =>
                                                      try simp only [Act.put, List.getElem_toArray, List.getElem_cons_zero, List.getElem_cons_succ, List.setIfInBounds_toArray, List.set_cons_zero, List.set_cons_succ]
                                                      refine' wpAnyH_take (i := 21) (oi := _) (v := _) rfl (by kernel_rfl) (by kernel_rfl) (by kernel_rfl) (fun _ _ _ h => h) (Or.inl ⟨by rfl, ?hy⟩) (by assumption) ?rest
                                                      case hy => (intro w hSw; (try dsimp only at hSw); go_simp; try (with_reducible rfl))
                                                      case rest =>
                                                        try simp only [Act.put, List.getElem_toArray, List.getElem_cons_zero, List.getElem_cons_succ, List.setIfInBounds_toArray, List.set_cons_zero, List.set_cons_succ]
                                                        refine' wpAnyH_take (i := 22) (oi := _) (v := _) rfl (by kernel_rfl) (by kernel_rfl) (by kernel_rfl) (fun _ _ _ h => h) (Or.inl ⟨by rfl, ?hy⟩) (by assumption) ?rest
                                                        case hy => (intro w hSw; (try dsimp only at hSw); go_simp; try (with_reducible rfl))
                                                        case rest =>
                                                          try simp only [Act.put, List.getElem_toArray, List.getElem_cons_zero, List.getElem_cons_succ, List.setIfInBounds_toArray, List.set_cons_zero, List.set_cons_succ]
                                                          refine' wpAnyH_take (i := 23) (oi := _) (v := _) rfl (by kernel_rfl) (by kernel_rfl) (by kernel_rfl) (fun _ _ _ h => h) (Or.inl ⟨by rfl, ?hy⟩) (by assumption) ?rest
                                                          case hy => (intro w hSw; (try dsimp only at hSw); go_simp; try (with_reducible rfl))
                                                          case rest =>
                                                            try simp only [Act.put, List.getElem_toArray, List.getElem_cons_zero, List.getElem_cons_succ, List.setIfInBounds_toArray, List.set_cons_zero, List.set_cons_succ]
                                                            refine' wpAnyH_take (i := 24) (oi := _) (v := _) rfl (by kernel_rfl) (by kernel_rfl) (by kernel_rfl) (fun _ _ _ h => h) (Or.inl ⟨by rfl, ?hy⟩) (by assumption) ?rest
                                                            case hy => (intro w hSw; (try dsimp only at hSw); go_simp; try (with_reducible rfl))
                                                            case rest =>
                                                              try simp only [Act.put, List.getElem_toArray, List.getElem_cons_zero, List.getElem_cons_succ, List.setIfInBounds_toArray, List.set_cons_zero, List.set_cons_succ]
                                                              refine wpAnyH_take (i := 25) (oi := _) (v := undef) rfl (by kernel_rfl) (by kernel_rfl) (by kernel_rfl) (fun _ _ _ h => h) (Or.inr ⟨by rfl, rfl⟩) (by assumption) ?_
                                                              try simp only [Act.put, List.getElem_toArray, List.getElem_cons_zero, List.getElem_cons_succ, List.setIfInBounds_toArray, List.set_cons_zero, List.set_cons_succ]
                                                              refine wpAnyH_take (i := 26) (oi := _) (v := undef) rfl (by kernel_rfl) (by kernel_rfl) (by kernel_rfl) (fun _ _ _ h => h) (Or.inr ⟨by rfl, rfl⟩) (by assumption) ?_
                                                              try simp only [Act.put, List.getElem_toArray, List.getElem_cons_zero, List.getElem_cons_succ, List.setIfInBounds_toArray, List.set_cons_zero, List.set_cons_succ]
                                                              refine wpAnyH_take (i := 27) (oi := _) (v := undef) rfl (by kernel_rfl) (by kernel_rfl) (by kernel_rfl) (fun _ _ _ h => h) (Or.inr ⟨by rfl, rfl⟩) (by assumption) ?_
                                                              try simp only [Act.put, List.getElem_toArray, List.getElem_cons_zero, List.getElem_cons_succ, List.setIfInBounds_toArray, List.set_cons_zero, List.set_cons_succ]
                                                              refine wpAnyH_take (i := 28) (oi := _) (v := undef) rfl (by kernel_rfl) (by kernel_rfl) (by kernel_rfl) (fun _ _ _ h => h) (Or.inr ⟨by rfl, rfl⟩) (by assumption) ?_
                                                              try simp only [Act.put, List.getElem_toArray, List.getElem_cons_zero, List.getElem_cons_succ, List.setIfInBounds_toArray, List.set_cons_zero, List.set_cons_succ]
                                                              refine wpAnyH_take (i := 29) (oi := _) (v := undef) rfl (by kernel_rfl) (by kernel_rfl) (by kernel_rfl) (fun _ _ _ h => h) (Or.inr ⟨by rfl, rfl⟩) (by assumption) ?_
                                                              try simp only [Act.put, List.getElem_toArray, List.getElem_cons_zero, List.getElem_cons_succ, List.setIfInBounds_toArray, List.set_cons_zero, List.set_cons_succ]
                                                              refine wpAnyH_take (i := 30) (oi := _) (v := undef) rfl (by kernel_rfl) (by kernel_rfl) (by kernel_rfl) (fun _ _ _ h => h) (Or.inr ⟨by rfl, rfl⟩) (by assumption) ?_
                                                              try simp only [Act.put, List.getElem_toArray, List.getElem_cons_zero, List.getElem_cons_succ, List.setIfInBounds_toArray, List.set_cons_zero, List.set_cons_succ]
                                                              refine wpAnyH_take (i := 31) (oi := _) (v := undef) rfl (by kernel_rfl) (by kernel_rfl) (by kernel_rfl) (fun _ _ _ h => h) (Or.inr ⟨by rfl, rfl⟩) (by assumption) ?_
                                                              try simp only [Act.put, List.getElem_toArray, List.getElem_cons_zero, List.getElem_cons_succ, List.setIfInBounds_toArray, List.set_cons_zero, List.set_cons_succ]
                                                              refine wpAnyH_take (i := 32) (oi := _) (v := undef) rfl (by kernel_rfl) (by kernel_rfl) (by kernel_rfl) (fun _ _ _ h => h) (Or.inr ⟨by rfl, rfl⟩) (by assumption) ?_
                                                              try simp only [Act.put, List.getElem_toArray, List.getElem_cons_zero, List.getElem_cons_succ, List.setIfInBounds_toArray, List.set_cons_zero, List.set_cons_succ]
                                                              refine wpAnyH_take (i := 33) (oi := _) (v := undef) rfl (by kernel_rfl) (by kernel_rfl) (by kernel_rfl) (fun _ _ _ h => h) (Or.inr ⟨by rfl, rfl⟩) (by assumption) ?_
                                                              try simp only [Act.put, List.getElem_toArray, List.getElem_cons_zero, List.getElem_cons_succ, List.setIfInBounds_toArray, List.set_cons_zero, List.set_cons_succ]
                                                              refine wpAnyH_take (i := 34) (oi := _) (v := undef) rfl (by kernel_rfl) (by kernel_rfl) (by kernel_rfl) (fun _ _ _ h => h) (Or.inr ⟨by rfl, rfl⟩) (by assumption) ?_
                                                              try simp only [Act.put, List.getElem_toArray, List.getElem_cons_zero, List.getElem_cons_succ, List.setIfInBounds_toArray, List.set_cons_zero, List.set_cons_succ]
                                                              refine wpAnyH_take (i := 35) (oi := _) (v := undef) rfl (by kernel_rfl) (by kernel_rfl) (by kernel_rfl) (fun _ _ _ h => h) (Or.inr ⟨by rfl, rfl⟩) (by assumption) ?_
                                                              try simp only [Act.put, List.getElem_toArray, List.getElem_cons_zero, List.getElem_cons_succ, List.setIfInBounds_toArray, List.set_cons_zero, List.set_cons_succ]
                                                              refine wpAnyH_take (i := 36) (oi := _) (v := undef) rfl (by kernel_rfl) (by kernel_rfl) (by kernel_rfl) (fun _ _ _ h => h) (Or.inr ⟨by rfl, rfl⟩) (by assumption) ?_
                                                              try simp only [Act.put, List.getElem_toArray, List.getElem_cons_zero, List.getElem_cons_succ, List.setIfInBounds_toArray, List.set_cons_zero, List.set_cons_succ]
                                                              refine wpAnyH_take (i := 37) (oi := _) (v := undef) rfl (by kernel_rfl) (by kernel_rfl) (by kernel_rfl) (fun _ _ _ h => h) (Or.inr ⟨by rfl, rfl⟩) (by assumption) ?_
                                                              try simp only [Act.put, List.getElem_toArray, List.getElem_cons_zero, List.getElem_cons_succ, List.setIfInBounds_toArray, List.set_cons_zero, List.set_cons_succ]
                                                              refine' wpAnyH_take (i := 38) (oi := _) (v := _) rfl (by kernel_rfl) (by kernel_rfl) (by kernel_rfl) (fun _ _ _ h => h) (Or.inl ⟨by rfl, ?hy⟩) (by assumption) ?rest
                                                              case hy => (intro w hSw; (try dsimp only at hSw); go_simp; try (with_reducible rfl))
                                                              case rest =>
                                                                try simp only [Act.put, List.getElem_toArray, List.getElem_cons_zero, List.getElem_cons_succ, List.setIfInBounds_toArray, List.set_cons_zero, List.set_cons_succ]
                                                                refine' wpAnyH_take (i := 39) (oi := _) (v := _) rfl (by kernel_rfl) (by kernel_rfl) (by kernel_rfl) (fun _ _ _ h => h) (Or.inl ⟨by rfl, ?hy⟩) (by assumption) ?rest
                                                                case hy => (intro w hSw; (try dsimp only at hSw); go_simp; try (with_reducible rfl))
                                                                case rest =>
                                                                  try simp only [Act.put, List.getElem_toArray, List.getElem_cons_zero, List.getElem_cons_succ, List.setIfInBounds_toArray, List.set_cons_zero, List.set_cons_succ]
                                                                  refine wpAnyH_done (by kernel_rfl) ?_ _
                                                                  all_goals
                                                                    have G9 := hid (show TwinAt w p q pe pf d one two (k + 1) _ from by unfold TwinAt; rw [SS1.out, SS2.out]; exact GC2.out.pull3.pull2.pull3)
                                                                    go_wp2_with fail
                                                                    exact ⟨⟨k + 1, by omega, by simp, G9.out⟩, by show one.length - ((k : Int) + 1).toNat < one.length - (k : Int).toNat; omega⟩
            · have hkk : k = one.length := by omega
              have e1 : d.calls (one.take k) = d.calls one := by rw [List.take_of_length_le (by omega)]
              have e2 : d.calls (two.take k) = d.calls two := by rw [List.take_of_length_le (by omega)]
              unfold TwinAt at hh
              rw [e1, e2] at hh
              have A1 := calls_take HO.out.1 HO.out.2 hb1 one.length
              have A2 := calls_take HO.out.1 HO.out.2 hb2 two.length
              rw [List.take_length] at A1 A2
              have HA := hid (And.intro A1 A2)
              clear e1 e2 hkk A1 A2
              have E1 := hid (same_held (hh.pull3.pull2) HA.out.1.1 HA.out.1.1 (Alike.refl _) (by have := HA.out.1.2.seen; omega))
              clear hh
              go_wp2_with fail
              refine E1.out.mono ?_
              rintro e w9 ⟨rfl, g⟩
              -- q, pe, p, pf
              have E2 := hid (same_held (g.pull3.pull3) HA.out.2.1 HA.out.2.1 (Alike.refl _) (by have := HA.out.2.2.seen; omega))
              clear g E1
              go_wp2_with fail
              refine E2.out.mono ?_
              rintro e w10 ⟨rfl, g⟩
              -- p, pf, q, pe
              have P1 := hid (pending_held g.pull2)
              have P2 := hid (pending_held g.pull3)
              have P3 := hid (pending_held g)
              have P4 := hid (pending_held g.pull1)
              generalize (d.calls one).pending.length = n1 at *
              generalize (d.calls two).pending.length = n2 at *
              have G := hid g
              clear g E2
              go_wp2_with fail
              refine P1.out.mono ?_
              rintro e w11 ⟨rfl, rfl⟩
              clear P1
              go_wp2_with fail
              refine P2.out.mono ?_
              rintro e w11 ⟨rfl, rfl⟩
              clear P2
              go_wp2_with fail
              refine P3.out.mono ?_
              rintro e w11 ⟨rfl, rfl⟩
              clear P3
              go_wp2_with fail
              refine P4.out.mono ?_
              rintro e w11 ⟨rfl, rfl⟩
              clear P4
              go_wp2_with fail
              refine (awake_any _).mono ?_
              rintro e w11 ⟨rfl, hm⟩
              go_wp2_with fail
              go_ret
              exact ⟨rfl, (G.out.step hm).below⟩
end Go.Proofs.Ytkednbkildkkmaa
