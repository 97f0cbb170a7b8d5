/- seglog: Append over Held, the second way: a full segment is synced. (Printed by gen_T13.py.) -/
import Derived.Test.YtdbhccehbjhbpaaGreatDoorT13

namespace Go.Proofs.YtdbhccehbjhbpaaGreatDoor
open Go.RowKit
open Slog (Seg recsOf nameB Lg framed)
open Disk (Dk)
section
variable {w0 w : World} {B : List Res} {q p next : Nat} {l : List Seg} {d : Dk} {v : Value} {r : List UInt8} {R : Res}

set_option maxRecDepth 100000 in
set_option maxHeartbeats 4000000 in
theorem lappend_full {ls : List Seg} {s : Seg} (hR : SrcR w0 R v (bytesV r)) (h : Held w0 w (rLog q p l next :: rDisk p d :: R :: B)) (hl : l = ls ++ [s]) (hll6 : l.length ≤ 1000000) {nm : Nat} (hnm : NameOk w0 nm) (hs : s.1 < nm) (hbig : 4096 ≤ s.bytes.length) (hsy : (d.sync (nameB s.1)).2 = 0) (hpl1 : (d.sync (nameB s.1)).1.pending.length ≤ 1000000) (hok : d.Ok) (hpl : d.pending.length ≤ 1000000) (hn0 : next < nm) (hn : next ≤ 245) (hr : r.length ≤ 65535) (hrec : (recsOf l).length ≤ 1000000) :
    Calls Tryz.prog 39 #[.pointer (some ⟨q, 0, none⟩), v] w (APost w0 B q p R ((d.sync (nameB s.1)).1.write (nameB next) (framed next r)) l (l ++ [(next, [r])]) next) := by
  obtain ⟨A, c, rfl⟩ := hR.form (M := [_, _]) h
  have HR := hid hR
  clear hR
  obtain ⟨gs, gr, h1⟩ := h.lopen
  have hj : ls.length < l.length := by rw [hl]; simp
  obtain ⟨g, sc, rfl, hs1, s0, s1⟩ := h1.pull1.seg_at hj
  have hlj : l[ls.length] = s := by subst hl; simp
  rw [hlj] at s0 s1
  obtain ⟨rA, rc, rfl, hr1, hr2⟩ := h1.pull2.recs_form
  have HG := hid (fun w1 B1 (g1 : Held w0 w1 (rRows 2 134 (.slice (some ⟨g, 0, none⟩) l.length sc) (l.map segRow) :: B1)) => seg_cells g1 hj)
  rw [hlj] at HG
  obtain ⟨m, hm⟩ : ∃ m, m = ls.length := ⟨_, rfl⟩
  have hll : l.length = m + 1 := by rw [hl, hm]; simp
  rw [← hm] at s0 s1 HG
  have HNR := hid (show (l.map segRow).length = m + 1 by rw [List.length_map, hll])
  rw [hll] at h1 hs1 HG
  obtain ⟨n, hnr⟩ : ∃ n, n = (recsOf l).length := ⟨_, rfl⟩
  have HL6 := hid hrec
  rw [← hnr] at h1 hr1 hrec
  have HNL := hid hnr
  have hm6 : m ≤ 1000000 := by omega
  have k0 : (0 : Int) ≤ (m : Int) := by omega
  have k1 : (m : Int) < (m : Int) + 1 := by omega
  have k2 : IntKind.i64.wrap (m : Int) = (m : Int) := by rw [IntKind.wrap_i64]; omega
  have c0 : w.cell? ⟨q, 0, none⟩ = some (.pointer (some ⟨p, 0, none⟩)) := h1.blk0.cell rfl
  have c1 : w.cell? ⟨q, 1, none⟩ = some (.slice (some ⟨g, 0, none⟩) (m + 1) sc) := h1.blk0.cell rfl
  have c3 : w.cell? ⟨q, 3, none⟩ = some (.int .i64 next) := h1.blk0.cell rfl
  have HM := hid (lmade_any w q p c0)
  have HF := hid (framed_any (fun _ => True) w next (by omega) _ r (HR.out _ [_, _, _, _] _ h1) hr)
  have HN := hid (hnm next hn0)
  have HNS := hid (hnm s.1 hs)
  have HH := hid h1
  have HO := hid (And.intro hok hpl)
  have hfl : (framed next r).length ≤ 70000 := by rw [Slog.framed_length (by omega)]; omega
  obtain ⟨fr, hfr⟩ : ∃ fr, fr = framed next r := ⟨_, rfl⟩
  rw [← hfr] at HF hfl ⊢
  have HE := hid hfr
  obtain ⟨i0, hi, hz0, hz1, hz2⟩ := info_parts Tryz.infoBytes
  have HI := hid (And.intro hi (And.intro hz0 (And.intro hz1 hz2)))
  have HLS := hid (And.intro hl hm)
  have HS := hid (fun (B1 : List Res) w1 (g1 : Held w0 w1 (rDisk p d :: B1)) => sync_held g1 HO.out.1 HO.out.2 (nameB s.1) (by rw [Slog.nameB_length]; omega))
  have hok1 := hok.sync (nameB s.1)
  rw [hsy] at HS
  obtain ⟨dS, hdS⟩ : ∃ dS, dS = (d.sync (nameB s.1)).1 := ⟨_, rfl⟩
  rw [← hdS] at HS hok1 hpl1 ⊢
  have HO1 := hid (And.intro hok1 hpl1)
  obtain ⟨z, hz⟩ : ∃ z, z = s.bytes.length := ⟨_, rfl⟩
  rw [← hz] at s1 hbig HG
  have hbig2 : (4096 : Int) ≤ (z : Int) := by omega
  clear h h1 hok hpl hfr hi hz0 hz1 hz2 hok1 hpl1 hdS hsy hlj hj hl hm hnr hz hbig hll
  go_enter Tryz.func39, Tryz.ntmps39
  go_wp2_with (first
    | (go_at_call 69; refine HM.out.mono ?_; rintro e w' ⟨rfl, rfl⟩)
    | (go_at_call 70; refine HF.out.mono ?_; rintro e w1 ⟨vb, F1, rfl, ho, hu⟩; have g1 := HH.out.more (R := rBytes vb fr) (own_bytes ho) hu; obtain ⟨bA, bc, rfl, -, -⟩ := Held.form (l1 := []) g1; have b1 := g1.pull1.blk0; have d0 : w1.cell? ⟨q, 0, none⟩ = some (.pointer (some ⟨p, 0, none⟩)) := b1.cell rfl; have d1 : w1.cell? ⟨q, 1, none⟩ = some (.slice (some ⟨g, 0, none⟩) (m + 1) sc) := b1.cell rfl; have d3 : w1.cell? ⟨q, 3, none⟩ = some (.int .i64 next) := b1.cell rfl; obtain ⟨t0, t1⟩ := HG.out _ _ g1.pull2; have G1 := hid g1; clear g1 ho hu b1))
  -- [vb, blk, rows, recs, disk, v, B]
  go_region_held3 (fun w' => w'.cell? ⟨q, 0, none⟩ = some (.pointer (some ⟨p, 0, none⟩)) ∧ w'.cell? ⟨q, 1, none⟩ = some (.slice (some ⟨g, 0, none⟩) (m + 1) sc) ∧ w'.cell? ⟨g, m * 2, none⟩ = some (.int .i64 s.1))
    (first | exact ⟨d0, d1, t0⟩ | exact ⟨e0, e1, u0⟩ | exact ⟨f0, f1, y0⟩)
    (first
      | (go_at_call 72; refine (HNS.out _ G1.out.drew.mod).mono ?_; rintro e w2 ⟨rfl, m2⟩; have g2 := G1.out.drew.step m2; have b2 := g2.pull1.blk0; have e0 : w2.cell? ⟨q, 0, none⟩ = some (.pointer (some ⟨p, 0, none⟩)) := b2.cell rfl; have e1 : w2.cell? ⟨q, 1, none⟩ = some (.slice (some ⟨g, 0, none⟩) (m + 1) sc) := b2.cell rfl; obtain ⟨u0, -⟩ := HG.out _ _ g2.pull2; have G2 := hid g2.pull4; clear g2 b2 m2)
      | (go_at_call 71; refine (HS.out _ _ G2.out).mono ?_; rintro e w3 ⟨rfl, g3⟩; have b3 := g3.pull2.blk0; have f0 : w3.cell? ⟨q, 0, none⟩ = some (.pointer (some ⟨p, 0, none⟩)) := b3.cell rfl; have f1 : w3.cell? ⟨q, 1, none⟩ = some (.slice (some ⟨g, 0, none⟩) (m + 1) sc) := b3.cell rfl; have f3 : w3.cell? ⟨q, 3, none⟩ = some (.int .i64 next) := b3.cell rfl; obtain ⟨y0, -⟩ := HG.out _ _ g3.pull3; have H3 := hid g3.pull1; clear g3 b3))
  all_goals
    clear e0 e1 u0 d0 d1 d3 t0 t1 G1 G2 c0 c1 c3 s0 s1
    -- [vb, disk, blk, rows, recs, v, B] at w3
    go_wp2_with fail
    go_region_held3 (fun w' => w'.cell? ⟨q, 0, none⟩ = some (.pointer (some ⟨p, 0, none⟩)) ∧ w'.cell? ⟨q, 3, none⟩ = some (.int .i64 next))
      (first | exact ⟨f0, f3⟩ | exact ⟨i0', i3⟩ | exact ⟨j0, j3⟩)
      (first
        | (go_at_call 72; refine (HN.out _ H3.out.drew.mod).mono ?_; rintro e w4 ⟨rfl, m4⟩; have g4 := H3.out.drew.step m4; have b4 := g4.pull2.blk0; have i0' : w4.cell? ⟨q, 0, none⟩ = some (.pointer (some ⟨p, 0, none⟩)) := b4.cell rfl; have i3 : w4.cell? ⟨q, 3, none⟩ = some (.int .i64 next) := b4.cell rfl; have G4 := hid g4.pull1; clear g4 b4 m4)
        | (go_at_call 73; refine (write_held G4.out HO1.out.1 HO1.out.2 (nameB next) (by rw [Slog.nameB_length]; omega) fr bA bc src_held0 (by omega)).mono ?_; rintro e w5 ⟨rfl, g5⟩; have b5 := g5.pull2.blk0; have j0 : w5.cell? ⟨q, 0, none⟩ = some (.pointer (some ⟨p, 0, none⟩)) := b5.cell rfl; have j3 : w5.cell? ⟨q, 3, none⟩ = some (.int .i64 next) := b5.cell rfl; have j1 : w5.cell? ⟨q, 1, none⟩ = some (.slice (some ⟨g, 0, none⟩) (m + 1) sc) := b5.cell rfl; have G5 := hid g5; clear g5 b5))
    all_goals
      clear f0 f1 f3 i0' i3 G4 H3 y0
      have f0 := j0
      have f1 := j1
      have f3 := j3
      have G3 := G5
      clear j0 j1 j3 G5
      generalize hwr : dS.write (nameB next) fr = wr at *
      clear hwr
      generalize w5 = w3 at *
      obtain ⟨d1, er⟩ := wr
      by_cases he : er = 0
      · subst he
        have b3 := G3.out.pull2.blk0
        have f1a := fun o => (b3.alloc o).cell (i := 1) rfl
        have f3a := fun o => (b3.alloc o).cell (i := 3) rfl
        clear b3
        obtain ⟨iS, iz, is, ib, iy⟩ := info_parts Tryz.infoSeg
        have HIs := hid (And.intro iz (And.intro is (And.intro ib iy)))
        clear iz is ib iy
        go_wp2_with fail
        go_region_law (first
            | (refine step_append_row [] _ rfl _ _ 128 rfl 2 134 iS _ 16 Tryz.underlying128 HIs.out.1 HIs.out.2.1 HIs.out.2.2.1 HIs.out.2.2.2 rfl (by decide) _ (l.map segRow) (m + 1) HNR.out rfl (G3.out.pull3.step (by repeat (first | exact Mod.refl _ _ | refine Mod.alloc ?_ _ | refine Mod.drew ?_))) _ _ [.int .i64 next, .int .i64 fr.length] rfl rfl (World.news_of_block (heap_alloc_new w3 _)) (by intro u hu; simp only [List.mem_cons, List.not_mem_nil, or_false] at hu; rcases hu with rfl | rfl <;> rfl) (by omega) (by unfold maxLen; omega) ?_; intro A4 c4 w4 q1 q2 g4; have b4 := g4.pull3.blk0; have x1 := b4.cell (i := 1) rfl; have x2 := b4.frozen 1; have x3 : w4.cell? ⟨q, 3, none⟩ = some (.int .i64 next) := b4.cell rfl; have g5 := Held.store (l1 := [_, _, _]) g4 1 (.slice A4 ((m + 1) + 1) c4); have x3s : (w4.setCell ⟨q, 1, none⟩ (.slice A4 ((m + 1) + 1) c4)).cell? ⟨q, 3, none⟩ = some (.int .i64 next) := (Held.blk (l1 := [_, _, _]) g5).cell rfl; have G4 := hid g5; clear g4 g5 b4))
        all_goals
          have HT : Hid (Held w0 (w4.setCell ⟨q, 1, none⟩ (.slice A4 ((m + 1) + 1) c4)) (rBlk q 130 #[.pointer (some ⟨p, 0, none⟩), .slice A4 ((m + 1) + 1) c4, (.slice rA n rc), .int .i64 next] :: rRows 2 134 (.slice A4 ((m + 1) + 1) c4) ((l.map segRow) ++ [[.int .i64 next, .int .i64 fr.length]]) :: rRecs ((.slice rA n rc)) ((recsOf l)) :: rDisk p d1 :: rBytes (.slice bA fr.length bc) fr :: R :: B)) := hid (G4.out.pull3.pull4.push2)
          clear G4 x1 x2 x3 q1 q2
          generalize w4.setCell ⟨q, 1, none⟩ (.slice A4 ((m + 1) + 1) c4) = wT at *
          obtain ⟨gsT, hgsT⟩ : ∃ gsT, gsT = Value.slice A4 ((m + 1) + 1) c4 := ⟨_, rfl⟩
          obtain ⟨bvs, hbl, g5⟩ := HT.out.pull2.recs_open
          have HBL := hid hbl
          have b5 := g5.pull2.blk0
          have k2 : wT.cell? ⟨q, 2, none⟩ = some ((.slice rA n rc)) := b5.cell rfl
          have HRd := hid (HR.out _ [_, _, _, _, _, _] _ g5)
          have GR := hid g5
          clear g5 hbl b5
          go_wp2_with fail
          go_region_law (first
              | (go_simp; go_at_call 74; refine (bclone_held GR.out.drew (fun _ => True) _ r HRd.out.drew (by omega)).mono ?_; rintro e w6 ⟨v6, rfl, g6⟩; obtain ⟨A6, c6, rfl, -, -⟩ := Held.form (l1 := []) g6; have b6 := g6.pull3.blk0; have d2 : w6.cell? ⟨q, 2, none⟩ = some ((.slice rA n rc)) := b6.cell rfl; have d2a : ∀ o, (w6.alloc o).cell? ⟨q, 2, none⟩ = some ((.slice rA n rc)) := fun o => (b6.alloc o).cell rfl; have G6 := hid g6.pull1; clear g6 b6)
              | (refine step_append_held [] _ rfl _ _ 104 rfl 87 i0 (.slice none 0 0) 24 Tryz.underlying104 HI.out.1 HI.out.2.1 HI.out.2.2.1 HI.out.2.2.2 rfl _ bvs rfl (G6.out.step (by repeat (first | exact Mod.refl _ _ | refine Mod.alloc ?_ _ | refine Mod.drew ?_))) _ (.slice (some ⟨w6.heap.size, 0, none⟩) 1 1) [.slice A6 r.length c6] rfl (own_built 87 w6 [.slice A6 r.length c6] (by simp [maxLen])).rd (by simp [Value.oneCell']) (by have := HL6.out; rw [HBL.out, List.length_singleton]; omega) (by have := HL6.out; rw [HBL.out, List.length_singleton]; unfold maxLen; omega) ?_; intro A7 c7 w7 q1 q2 g7; have b7 := g7.pull3.blk0; have x1 := b7.cell (i := 2) rfl; have x2 := b7.frozen 2; have G7 := hid (Held.store (l1 := [_, _, _]) g7 2 (.slice A7 (bvs.length + 1) c7)); clear g7 b7))
          all_goals
            have g8 := (G7.out : Held w0 _ (rOwn 87 _ _ :: rBytes (.slice A6 r.length c6) r :: rBig bytesLoc _ :: rBlk q 130 #[.pointer (some ⟨p, 0, none⟩), _, .slice A7 (bvs.length + 1) c7, .int .i64 next] :: _)).pull2.pull1
            have g9 := (Held.recs_snoc HBL.out g8).push2
            clear g8
            generalize w7.setCell ⟨q, 2, none⟩ (.slice A7 (bvs.length + 1) c7) = w8 at *
            have b9 := g9.blk0
            have y3 : w8.cell? ⟨q, 3, none⟩ = some (.int .i64 next) := b9.cell rfl
            have y4 := b9.frozen 3
            have G10 := hid (Held.store (l1 := []) g9 3 (.int .i64 ((next : Int) + 1)))
            clear g9 b9 G7 x1 x2
            go_wp2_with fail
            go_ret2
            have g11 : Held w0 (w8.setCell ⟨q, 3, none⟩ (.int .i64 ((next : Int) + 1))) (rBlk q 130 #[.pointer (some ⟨p, 0, none⟩), _, .slice A7 (bvs.length + 1) c7, .int .i64 ((next + 1 : Nat) : Int)] :: _) := G10.out
            rw [HE.out] at g11
            exact APost.yes rfl ((Held.lshut_new g11).pull2.drop0)
      · have he2 : (er != 0) = true := bne_iff_ne.2 he
        go_wp2_with fail
        go_ret2
        exact APost.no he (Held.lshut (gs := .slice (some ⟨g, 0, none⟩) (m + 1) sc) (G3.out.pull1.drop0.push3))
end
end Go.Proofs.YtdbhccehbjhbpaaGreatDoor
