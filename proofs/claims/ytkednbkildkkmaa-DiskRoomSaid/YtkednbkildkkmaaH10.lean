/- DiskRoom: the walk. -/
import Derived.Test.YtkednbkildkkmaaH71
import Derived.Deep.RegionHeld
namespace Go.Proofs.Ytkednbkildkkmaa
open Go.RowKit
open Disk

theorem u3k_mod (k : Int) : ∃ n : Nat, wrap64 ((IntKind.u64.wrap k).tmod 3000) = n ∧ n < 3000 := by
  have h0 : IntKind.u64.wrap k = k % 18446744073709551616 := by unfold IntKind.wrap IntKind.bits IntKind.signed; simp
  refine ⟨((k % 18446744073709551616) % 3000).toNat, ?_, by omega⟩
  rw [h0, Int.tmod_eq_emod_of_nonneg (by omega)]
  unfold wrap64
  omega

theorem wrap_i64_small (x : Int) (h0 : 0 ≤ x) (h1 : x ≤ 1000000000) : IntKind.i64.wrap x = x := by
  unfold IntKind.wrap IntKind.bits IntKind.signed
  simp
  omega
theorem sum_perm {l m : List Nat} (h : l.Perm m) : l.sum = m.sum := by
  induction h with
  | nil => rfl
  | cons x _ ih => simp [ih]
  | swap x y l => simp; omega
  | trans _ _ h1 h2 => exact h1.trans h2
/-- how many bytes the first j files have. -/
def sumTo (d : Dk) (l : List Bytes) (j : Nat) : Nat := ((l.take j).map fun n => (d.read n).1.length).sum
theorem sumTo_succ {d : Dk} {l : List Bytes} {j : Nat} (h : j < l.length) : sumTo d l (j + 1) = sumTo d l j + (d.read l[j]).1.length := by
  unfold sumTo
  rw [List.take_succ_eq_append_getElem h, List.map_append, List.sum_append]
  simp
theorem sumTo_all (d : Dk) (l : List Bytes) : sumTo d l l.length = (l.map fun n => (d.read n).1.length).sum := by unfold sumTo; rw [List.take_length]
theorem sumTo_le (d : Dk) (l : List Bytes) (j : Nat) : sumTo d l j ≤ (l.map fun n => (d.read n).1.length).sum := by
  have h : l.map (fun n => (d.read n).1.length) = (l.take j).map (fun n => (d.read n).1.length) ++ (l.drop j).map fun n => (d.read n).1.length := by rw [← List.map_append, List.take_append_drop]
  rw [h, List.sum_append]
  unfold sumTo
  omega
theorem sum_list {d : Dk} (h : d.Ok) : (d.list.map fun n => (d.read n).1.length).sum = bytesOf d.seen := by
  have hp : d.list.Perm (d.seen.map (·.1)) := List.mergeSort_perm _ _
  rw [sum_perm (hp.map _), List.map_map]
  unfold bytesOf
  congr 1
  refine List.map_congr_left fun p hp => ?_
  show (d.read p.1).1.length = _
  rw [h.read_of, get_of_mem h.seenOk hp]

/-- the disk behind k of the calls. -/
def roomAt (n : Nat) (ds : List Do) (k : Nat) : Dk := diskOf n (ds.take k)
theorem roomAt_ok {n : Nat} (h : n < 3000) (ds : List Do) (k : Nat) : (roomAt n ds k).Ok := diskOf_ok (by omega) _
theorem roomAt_small (n : Nat) (ds : List Do) (k : Nat) : (roomAt n ds k).Small k := (diskOf_small n _).more (List.length_take_le _ _)
theorem roomAt_succ {n : Nat} {ds : List Do} {k : Nat} (h : k < ds.length) : roomAt n ds (k + 1) = ((roomAt n ds k).call ds[k]).1 := diskOf_succ h

set_option maxRecDepth 100000 in
set_option maxHeartbeats 4000000 in
theorem room_walk (w : World) (room : Int) (v : Value) (ds : List Do) (h : Dos w.heap.size w v ds) :
    Calls Try.prog 9 #[.int .i64 room, v] w fun e w' => e = .returned (.bool true) ∧ Below w.heap.size w w' := by
  obtain ⟨A, c, rfl, hc, hm⟩ := h.form
  obtain ⟨n, hn, hnl⟩ := u3k_mod room
  have HN := hid (new_held (Held.begin w) n (by omega))
  have HS := hid (short_any w.heap.size w _ ds h)
  have HD := hid h
  have HO := hid hnl
  clear h
  go_enter Try.func9, Try.ntmps9
  go_wp2_with fail
  refine HS.out.mono ?_
  rintro e w1 ⟨r, rfl, hr, rfl⟩
  cases r with
  | false =>
    clear hr HS
    go_wp2_with fail
    refine (awake_any w).mono ?_
    rintro e w2 ⟨rfl, hm⟩
    go_wp2_with fail
    go_ret
    exact ⟨rfl, ((Held.begin w).step hm).below⟩
  | true =>
    obtain ⟨hlen, hbytes⟩ := hr rfl
    have HR := hid hbytes
    clear hr hbytes HS
    go_wp2_with fail
    refine HN.out.mono ?_
    rintro e w1 ⟨p, rfl, g1⟩
    have G1 := hid g1
    clear g1 HN hn
    go_wp2_with fail
    go_loopw [32] (fun iv wr => ∃ k : Nat, k ≤ ds.length ∧ iv = .int .i64 k ∧ Held w wr [rDisk p (roomAt n ds k)]) (fun iv _ => ds.length - (intOf iv).toNat)
    case atStart => exact ⟨0, Nat.zero_le _, rfl, G1.out⟩
    case round =>
      obtain ⟨k, hk, rfl, hh⟩ := hrel
      clear G1
      by_cases hlt : k < ds.length
      · obtain ⟨b, off, bA, bc, kA, kc, rfl, -, c0, c1, c2, c3, c4, hat⟩ := (hh.dos HD.out).at hlt
        have hok := roomAt_ok HO.out ds k
        have hsm := (roomAt_small n ds k).more (show k ≤ 120 by omega)
        have hbl := HR.out ds[k] (List.getElem_mem hlt)
        have hsc := roomAt_succ (n := n) hlt
        obtain ⟨d, hd⟩ : ∃ d, d = roomAt n ds k := ⟨_, rfl⟩
        rw [← hd] at hok hsm hh hsc
        obtain ⟨kd, hkd⟩ : ∃ kd, kd = ds[k] := ⟨_, rfl⟩
        rw [← hkd] at c0 c1 c2 c3 c4 hat hbl hsc
        obtain ⟨kb, hkb⟩ : ∃ kb, kb = wr.heap.size := ⟨_, rfl⟩
        have hg0 := (hh.block 35 #[.int .i64 kd.op, .string ⟨kd.name.toArray⟩, .slice bA kd.b.length bc, .int .i64 kd.n, .slice kA kd.keep.length kc]).pull1
        rw [← hkb] at hg0
        have HKB := hid hkb
        have HSC := hid hsc
        have HBL := hid hbl
        have HW := hid hat.wf
        have HT := hid (show ∀ q : Nat, Src w [] [rDisk q d, rBlk kb 35 #[.int .i64 kd.op, .string ⟨kd.name.toArray⟩, .slice bA kd.b.length bc, .int .i64 kd.n, .slice kA kd.keep.length kc]] (.slice bA kd.b.length bc) (bytesV kd.b) ∧ Src w [] [rDisk q d, rBlk kb 35 #[.int .i64 kd.op, .string ⟨kd.name.toArray⟩, .slice bA kd.b.length bc, .int .i64 kd.n, .slice kA kd.keep.length kc]] (.slice kA kd.keep.length kc) (boolsV kd.keep) from fun q => hat.old hh _)
        have CC := hid (clone_disk hg0 hok (by have := hsm.rest; omega))
        have HK := hid (And.intro hok hsm)
        clear hh hd hkd hkb hat hbl hsc hg0 hok hsm
        unfold sv at c1
        go_wp2_with fail
        rw [← HKB.out]
        refine CC.out.mono ?_
        rintro e w2 ⟨q, rfl, g⟩
        -- clone, disk, k
        have hkb : Blk w2 kb 35 #[.int .i64 kd.op, .string ⟨kd.name.toArray⟩, .slice bA kd.b.length bc, .int .i64 kd.n, .slice kA kd.keep.length kc] := Held.blk (l1 := [_, _]) g
        have r0 : w2.cell? ⟨kb, 0, none⟩ = some (.int .i64 kd.op) := hkb.cell rfl
        have r1 : w2.cell? ⟨kb, 1, none⟩ = some (.string ⟨kd.name.toArray⟩) := hkb.cell rfl
        have r2 : w2.cell? ⟨kb, 2, none⟩ = some (.slice bA kd.b.length bc) := hkb.cell rfl
        have r3 : w2.cell? ⟨kb, 3, none⟩ = some (.int .i64 kd.n) := hkb.cell rfl
        have r4 : w2.cell? ⟨kb, 4, none⟩ = some (.slice kA kd.keep.length kc) := hkb.cell rfl
        have CD := hid (does_held g.pull1 HK.out.1 (by have := HK.out.2.rest; omega) kd HW.out bA kA bc kc (HT.out q).1 (HT.out q).2 (by have := HBL.out; omega))
        unfold sv at CD
        clear g CC hkb c0 c1 c2 c3 c4
        go_wp2_with fail
        refine CD.out.mono ?_
        rintro e w3 ⟨rfl, g⟩
        have hok2 := HK.out.1.call kd
        have hsm2 := (HK.out.2.call kd).more (show 121 ≤ 121 by omega)
        have herr := call_err d kd
        have hful := full_why HK.out.1 kd
        obtain ⟨d2, hd2⟩ : ∃ d2, d2 = (d.call kd).1 := ⟨_, rfl⟩
        obtain ⟨ec, hec⟩ : ∃ ec, ec = (d.call kd).2 := ⟨_, rfl⟩
        have HSC2 := hid (hd2.trans HSC.out.symm)
        rw [← hd2] at g hok2 hsm2 herr
        rw [← hec] at herr hful ⊢
        clear hd2 hec CD r0 r1 r2 r3 r4 HSC
        have HE := hid (And.intro herr hful)
        clear herr hful
        -- disk d2, clone d, k
        have C6 := hid (list_held g hok2 (by have := hsm2.seen; omega))
        have hbu := hok2.bytes_used
        have hsl := sum_list hok2
        have hfit := hok2.fits
        have hroom := hok2.room
        have H4 := hid (And.intro hok2 hsm2)
        have hl1 : d2.list.length ≤ 1000 := by rw [list_length]; have := hsm2.seen; omega
        clear g hok2 hsm2
        go_wp2_with fail
        refine C6.out.mono ?_
        rintro e w4 ⟨u1, rfl, g⟩
        -- names, disk d2, clone d, k
        obtain ⟨lA, lc, rfl, q1, q2⟩ := g.texts_form
        obtain ⟨nl, hnl2⟩ : ∃ nl, nl = d2.list.length := ⟨_, rfl⟩
        rw [← hnl2] at g q1 hl1 ⊢
        have HNL := hid hnl2
        have HSUM := hid (fun j => sumTo_le d2 d2.list j)
        have HALL := hid ((sumTo_all d2 d2.list).trans hsl)
        rw [hsl] at HSUM
        have HBU := hid hbu
        have HFIT := hid hfit
        have HROOM := hid hroom
        have HG := hid g
        clear g C6 hnl2 hsl hbu hfit hroom
        go_wp2_with fail
        go_loopw [11, 44] (fun sv_ iv wr => ∃ j : Nat, j ≤ nl ∧ iv = .int .i64 j ∧ sv_ = .int .i64 (sumTo d2 d2.list j : Nat) ∧ Held w wr [rTexts (.slice lA nl lc) d2.list, rDisk p d2, rDisk q d, rBlk kb 35 #[.int .i64 kd.op, .string ⟨kd.name.toArray⟩, .slice bA kd.b.length bc, .int .i64 kd.n, .slice kA kd.keep.length kc]]) (fun _ iv _ => nl - (intOf iv).toNat)
        case atStart => exact ⟨0, Nat.zero_le _, rfl, rfl, HG.out⟩
        case round =>
          obtain ⟨j, hjl, rfl, rfl, hh⟩ := hrel
          clear HG
          by_cases hjt : j < nl
          · have hjt' : j < d2.list.length := by rw [← HNL.out]; exact hjt
            obtain ⟨b2, off2, rfl, hcell⟩ := text_at hh.texts hjt'
            have hmem := List.getElem_mem hjt'
            have hss := sumTo_succ (d := d2) hjt'
            have hs1 := HSUM.out (j + 1)
            generalize d2.list[j] = m at *
            obtain ⟨x0, hx0⟩ := list_mem H4.out.1 hmem
            have hml := may_len (H4.out.1.seenLe _ _ hx0).1
            have R1 := hid (read_held hh.pull1 H4.out.1 m (by omega))
            obtain ⟨x, hx⟩ : ∃ x, x = (d2.read m).1 := ⟨_, rfl⟩
            obtain ⟨e3, he3⟩ : ∃ e3, e3 = (d2.read m).2 := ⟨_, rfl⟩
            rw [← hx] at R1 hss
            rw [← he3] at R1
            obtain ⟨s0, hs0⟩ : ∃ s0, s0 = sumTo d2 d2.list j := ⟨_, rfl⟩
            rw [← hs0] at hss ⊢
            have hb1 : s0 + x.length ≤ 16777216 := by have := HBU.out; have := HFIT.out; have := HROOM.out; omega
            have HSS := hid hss
            clear hh hx he3 hs0 hss hs1 hmem hx0 hml
            unfold sv at hcell R1
            go_wp2_with fail
            refine R1.out.mono ?_
            rintro e wa ⟨va, rfl, g⟩
            obtain ⟨vA, vc, rfl, v1, v2⟩ := Held.form (l1 := []) g
            have G7 := hid (show Held w wa [rTexts (.slice (some ⟨b2, off2, none⟩) nl lc) d2.list, rDisk p d2, rDisk q d, rBlk kb 35 #[.int .i64 kd.op, .string ⟨kd.name.toArray⟩, .slice bA kd.b.length bc, .int .i64 kd.n, .slice kA kd.keep.length kc]] from (Held.drop0 g).pull1)
            clear g R1
            go_wp2_with fail
            exact ⟨⟨j + 1, by omega, by simp, by rw [HSS.out]; simp, G7.out⟩, by show nl - ((j : Int) + 1).toNat < nl - (j : Int).toNat; omega⟩
          · have hj : sumTo d2 d2.list j = bytesOf d2.seen := by
              have : j = d2.list.length := by rw [← HNL.out]; omega
              rw [this]; exact HALL.out
            rw [hj]
            have g0 := hh.drop0
            -- disk d2, clone d, k
            obtain ⟨tot, htot⟩ : ∃ tot, tot = bytesOf d2.seen := ⟨_, rfl⟩
            obtain ⟨us, hus⟩ : ∃ us, us = used d2.held := ⟨_, rfl⟩
            obtain ⟨rm, hrm⟩ : ∃ rm, rm = d2.room := ⟨_, rfl⟩
            have i1 := HBU.out
            have i2 := HFIT.out
            have i3 := HROOM.out
            rw [← hus] at i1 i2
            rw [← hrm] at i2 i3
            rw [← htot] at i1 ⊢
            have hub : used d2.held ≤ 1000000000000 := by rw [← hus]; omega
            have hus2 := hid hus
            have hrm2 := hid hrm
            have U1 := hid (used_held g0 hub)
            rw [← hus] at U1
            have U2 := hid (fun (w' : World) (h : Held w w' [rDisk p d2, rDisk q d, rBlk kb 35 #[.int .i64 kd.op, .string ⟨kd.name.toArray⟩, .slice bA kd.b.length bc, .int .i64 kd.n, .slice kA kd.keep.length kc]]) => used_held h hub)
            have U3 := hid (fun (w' : World) (h : Held w w' [rDisk p d2, rDisk q d, rBlk kb 35 #[.int .i64 kd.op, .string ⟨kd.name.toArray⟩, .slice bA kd.b.length bc, .int .i64 kd.n, .slice kA kd.keep.length kc]]) => room_held h)
            rw [← hus] at U2
            rw [← hrm] at U3
            clear hh g0 hj htot hus hrm hub HSUM HALL
            go_wp2_with fail
            refine U1.out.mono ?_
            rintro e w5 ⟨rfl, g⟩
            have G5 := hid g
            have U4 := hid (U2.out _ g)
            clear g U1
            go_wp2_with fail
            refine U4.out.mono ?_
            rintro e w6 ⟨rfl, g⟩
            have G6 := hid g
            have U5 := hid (U3.out _ g)
            clear g U4 G5
            go_wp2_with fail
            refine U5.out.mono ?_
            rintro e w7 ⟨rfl, rfl⟩
            clear U5
            by_cases h0 : ec = 0
            · subst h0
              have G9 := hid (show Held w w6 [rDisk p (roomAt n ds (k + 1))] from by rw [← HSC2.out]; exact Held.drop0 (Held.pull1 (Held.drop0 (Held.pull1 G6.out))))
              clear G6
              go_wp2_with fail
              go_quiet (fail)
              go_wp2_with fail
              exact ⟨⟨k + 1, by omega, by simp, G9.out.drewN _⟩, by show ds.length - ((k : Int) + 1).toNat < ds.length - (k : Int).toNat; omega⟩

            · by_cases h7 : ec = 7
              · subst h7
                have hus7 : rm < us + kd.b.length := by
                  rcases Nat.lt_or_ge rm (us + kd.b.length) with h | h
                  · exact h
                  · obtain rfl : d2 = d := HE.out.1 h0
                    have := HE.out.2 rfl (by rw [← hus2.out, ← hrm2.out]; exact h)
                    have := HK.out.2.seen
                    omega
                obtain rfl : d2 = d := HE.out.1 h0
                have S1 := hid (same_held (Held.pull1 G6.out) HK.out.1 HK.out.1 (Alike.refl _) (by have := HK.out.2.seen; omega))

                clear G6
                go_wp2_with fail
                refine S1.out.mono ?_
                rintro e w8 ⟨rfl, g⟩
                -- clone, disk, k
                have V1 := hid (used_held g (by rw [← hus2.out]; omega))
                rw [← hus2.out] at V1
                clear g S1
                go_wp2_with fail
                refine V1.out.mono ?_
                rintro e w9 ⟨rfl, g⟩
                have V2 := hid (U2.out _ g.pull1)
                clear g V1
                go_wp2_with fail
                refine V2.out.mono ?_
                rintro e w10 ⟨rfl, g⟩
                have P1 := hid (pending_held g.pull1)
                have P2 := hid (pending_held g)
                obtain ⟨pn, hpn⟩ : ∃ pn, pn = d2.pending.length := ⟨_, rfl⟩
                rw [← hpn] at P1 P2
                have G8 := hid g
                clear g V2 hpn
                go_wp2_with fail
                refine P1.out.mono ?_
                rintro e w11 ⟨rfl, rfl⟩
                clear P1
                go_wp2_with fail
                refine P2.out.mono ?_
                rintro e w11 ⟨rfl, rfl⟩
                clear P2
                -- disk, clone, k

                have kbl := HBL.out
                have HU := hid (used_held (G8.out.pull1.drew) (by rw [← hus2.out]; omega))
                rw [← hus2.out] at HU
                have HRm := hid (fun (w' : World) (h : Held w w' [rDisk q d2, rDisk p d2, rBlk kb 35 #[.int .i64 kd.op, .string ⟨kd.name.toArray⟩, .slice bA kd.b.length bc, .int .i64 kd.n, .slice kA kd.keep.length kc]]) => room_held h)
                rw [← hrm2.out] at HRm
                have x0 : w10.drew.cell? ⟨kb, 2, none⟩ = some (.slice bA kd.b.length bc) := (Held.blk (l1 := [_, _]) G8.out.drew).cell rfl
                go_wp2_with fail
                have hus8 : decide (IntKind.i64.wrap ((us : Int) + (kd.b.length : Int)) ≤ (rm : Int)) = false := by rw [wrap_i64_small _ (by omega) (by omega), decide_eq_false_iff_not]; omega
                first
                  | (go_region_held (fun w' => w'.cell? ⟨kb, 2, none⟩ = some (.slice bA kd.b.length bc))
                      (first | exact x0 | exact x2)
                      (first
                        | (go_at_call 25; refine HU.out.mono ?_; rintro e w12 ⟨rfl, g2⟩; have x2 : w12.cell? ⟨kb, 2, none⟩ = some (.slice bA kd.b.length bc) := (Held.blk (l1 := [_, _]) g2).cell rfl; have G2 := hid g2; clear g2)
                        | (go_at_call 26; refine (HRm.out _ (by first | exact G2.out | exact G8.out.pull1.drew)).mono ?_; rintro e w13 ⟨rfl, rfl⟩)))
                  | fail
                all_goals
                  have G9 := hid (show Held w _ [rDisk p (roomAt n ds (k + 1))] from by rw [← HSC2.out]; exact Held.drop0 (Held.pull1 (Held.drop0 G2.out)))
                  go_wp2_with fail
                  exact ⟨⟨k + 1, by omega, by simp, G9.out⟩, by show ds.length - ((k : Int) + 1).toNat < ds.length - (k : Int).toNat; omega⟩
              · have y7 : (ec == 7) = false := by simpa using h7
                obtain rfl : d2 = d := HE.out.1 h0
                have S1 := hid (same_held (Held.pull1 G6.out) HK.out.1 HK.out.1 (Alike.refl _) (by have := HK.out.2.seen; omega))

                clear G6
                go_wp2_with fail
                refine S1.out.mono ?_
                rintro e w8 ⟨rfl, g⟩
                -- clone, disk, k
                have V1 := hid (used_held g (by rw [← hus2.out]; omega))
                rw [← hus2.out] at V1
                clear g S1
                go_wp2_with fail
                refine V1.out.mono ?_
                rintro e w9 ⟨rfl, g⟩
                have V2 := hid (U2.out _ g.pull1)
                clear g V1
                go_wp2_with fail
                refine V2.out.mono ?_
                rintro e w10 ⟨rfl, g⟩
                have P1 := hid (pending_held g.pull1)
                have P2 := hid (pending_held g)
                obtain ⟨pn, hpn⟩ : ∃ pn, pn = d2.pending.length := ⟨_, rfl⟩
                rw [← hpn] at P1 P2
                have G8 := hid g
                clear g V2 hpn
                go_wp2_with fail
                refine P1.out.mono ?_
                rintro e w11 ⟨rfl, rfl⟩
                clear P1
                go_wp2_with fail
                refine P2.out.mono ?_
                rintro e w11 ⟨rfl, rfl⟩
                clear P2
                -- disk, clone, k

                have G9 := hid (show Held w w10 [rDisk p (roomAt n ds (k + 1))] from by rw [← HSC2.out]; exact Held.drop0 (Held.pull1 (Held.drop0 (Held.pull1 G8.out))))
                clear G8
                go_wp2_with fail
                go_quiet (fail)
                go_wp2_with fail
                exact ⟨⟨k + 1, by omega, by simp, G9.out.drewN _⟩, by show ds.length - ((k : Int) + 1).toNat < ds.length - (k : Int).toNat; omega⟩
      · have HH := hid hh
        clear hh
        go_wp2_with fail
        refine (awake_any wr).mono ?_
        rintro e w8 ⟨rfl, hm⟩
        go_wp2_with fail
        go_ret
        exact ⟨rfl, (HH.out.step hm).below⟩
end Go.Proofs.Ytkednbkildkkmaa
