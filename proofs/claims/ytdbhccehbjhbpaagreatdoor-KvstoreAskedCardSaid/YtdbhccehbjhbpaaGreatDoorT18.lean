/- seglog: Trim over Held: the walk. -/
import Derived.Test.YtdbhccehbjhbpaaGreatDoorT17
import Derived.Deep.RegionLaw

namespace Go.Proofs.YtdbhccehbjhbpaaGreatDoor
open Go.RowKit
open Slog (Seg recsOf nameB Lg framed Chain trimF dropped Holds)
open Disk (Dk)

section
variable {w0 w : World} {B : List Res} {q p next : Nat} {l : List Seg} {d : Dk}
set_option maxRecDepth 100000 in
theorem ltrim_few (h : Held w0 w (rLog q p l next :: rDisk p d :: B)) (tt : Int) (hl : l.length < 2) :
    Calls Tryz.prog 65 #[.pointer (some ⟨q, 0, none⟩), .int .i64 tt] w fun e w' => e = .returned (.int .i64 0) ∧ Held w0 w' (rLog q p l next :: rDisk p d :: B) := by
  obtain ⟨sA, sc, rA, rc, h2, h3, h4, h5, c0, c1, c2, c3⟩ := h.lseen
  have HM := hid (lmade_any w q p c0)
  have HH := hid h
  obtain ⟨n, hn⟩ : ∃ n, n = l.length := ⟨_, rfl⟩
  rw [← hn] at c1 h2 hl
  have hl2 : (n : Int) < 2 := by omega
  clear h hn
  go_enter Tryz.func65, Tryz.ntmps65
  go_wp2_with (first | (go_at_call 69; refine HM.out.mono ?_; rintro e w' ⟨rfl, rfl⟩))
  go_ret
  exact ⟨rfl, HH.out⟩
set_option maxRecDepth 100000 in
theorem ltrim_not {s t : Seg} {m : List Seg} (h : Held w0 w (rLog q p (s :: t :: m) next :: rDisk p d :: B)) (tt : Int) (hle : ¬ (t.1 : Int) ≤ tt) :
    Calls Tryz.prog 65 #[.pointer (some ⟨q, 0, none⟩), .int .i64 tt] w fun e w' => e = .returned (.int .i64 0) ∧ Held w0 w' (rLog q p (s :: t :: m) next :: rDisk p d :: B) := by
  obtain ⟨gs, gr, h1⟩ := h.lopen
  obtain ⟨g, sc, rfl, q1, -, -⟩ := h1.pull1.seg_at (j := 0) (by simp)
  obtain ⟨s0, s1⟩ := two_seen h1.pull1
  have c0 : w.cell? ⟨q, 0, none⟩ = some (.pointer (some ⟨p, 0, none⟩)) := h1.blk0.cell rfl
  have c1 : w.cell? ⟨q, 1, none⟩ = some (.slice (some ⟨g, 0, none⟩) (m.length + 2) sc) := h1.blk0.cell rfl
  have HM := hid (lmade_any w q p c0)
  have HH := hid h
  have hgt : tt < (t.1 : Int) := by omega
  have hn : ¬ ((m.length : Int) + 2 < 2) := by omega
  have hn1 : (1 : Int) < (m.length : Int) + 2 := by omega
  clear h h1 hle
  go_enter Tryz.func65, Tryz.ntmps65
  go_wp2_with (first | (go_at_call 69; refine HM.out.mono ?_; rintro e w' ⟨rfl, rfl⟩))
  go_ret
  exact ⟨rfl, HH.out⟩

set_option maxRecDepth 100000 in
set_option maxHeartbeats 4000000 in
theorem ltrim_go {s t : Seg} {m : List Seg} (h : Held w0 w (rLog q p (s :: t :: m) next :: rDisk p d :: B)) (tt : Int) (hle : (t.1 : Int) ≤ tt) (hT : Trims tt next (s :: t :: m) d (s :: t :: m) d) (hn : next ≤ 98) :
    Calls Tryz.prog 65 #[.pointer (some ⟨q, 0, none⟩), .int .i64 tt] w fun e w' => e = .returned (.int .i64 0) ∧ Held w0 w' (rLog q p (trimF (s :: t :: m) tt) next :: rDisk p (dropped d (s :: t :: m) tt).flush :: B) := by
  obtain ⟨gs, gr, h1⟩ := h.lopen
  obtain ⟨g, sc, rfl, q1, -, -⟩ := h1.pull1.seg_at (j := 0) (by simp)
  obtain ⟨s0, s1⟩ := two_seen h1.pull1
  have c0 : w.cell? ⟨q, 0, none⟩ = some (.pointer (some ⟨p, 0, none⟩)) := h1.blk0.cell rfl
  have c1 : w.cell? ⟨q, 1, none⟩ = some (.slice (some ⟨g, 0, none⟩) (m.length + 2) sc) := h1.blk0.cell rfl
  have HM := hid (lmade_any w q p c0)
  have HT := hid (show TrimAt w0 B q p next (s :: t :: m) d tt w from ⟨_, _, h, hT⟩)
  have hn0 : ¬ ((m.length : Int) + 2 < 2) := by omega
  have hn1 : (1 : Int) < (m.length : Int) + 2 := by omega
  obtain ⟨l0, hl0⟩ : ∃ l0, l0 = s :: t :: m := ⟨_, rfl⟩
  rw [← hl0] at HT ⊢
  have hgt : decide (tt < (t.1 : Int)) = false := by rw [decide_eq_false_iff_not]; omega
  clear h h1 hT hl0
  go_enter Tryz.func65, Tryz.ntmps65
  go_wp2_with (first | (go_at_call 69; refine HM.out.mono ?_; rintro e w' ⟨rfl, rfl⟩))
  clear c0 c1 s0 s1 q1 hn0 hn1 hgt hle
  go_loopw [] (fun wr => TrimAt w0 B q p next l0 d tt wr) (fun wr => lenAt q wr)
  case atStart => exact HT.out
  case round =>
    clear HM HT
    obtain ⟨m1, d1, h, hT⟩ := hrel
    have HL := hid (show lenAt q wr = m1.length from h.lenAt)
    rcases m1 with _ | ⟨s1, _ | ⟨t1, m1⟩⟩
    · obtain ⟨sA, sc1, rA, rc, h2, h3, h4, h5, c0, c1, c2, c3⟩ := h.lseen
      simp only [List.length_nil] at c1
      have HD := hid h.pull1
      have HP := hid hT
      have hpd : d1.pending.length ≤ 1000000 := by have := hT.pend; omega
      clear h hT
      go_wp2_with (first
        | (go_at_call 102; refine (flush_held HD.out HP.out.ok hpd).mono ?_; rintro e w2 ⟨rfl, g2⟩; have G2 := hid g2; clear g2))
      go_ret
      refine ⟨rfl, ?_⟩
      rw [← HP.out.segs, ← HP.out.disk]
      exact G2.out.pull1
    · obtain ⟨sA, sc1, rA, rc, h2, h3, h4, h5, c0, c1, c2, c3⟩ := h.lseen
      simp only [List.length_singleton] at c1
      have HD := hid h.pull1
      have HP := hid hT
      have hpd : d1.pending.length ≤ 1000000 := by have := hT.pend; omega
      clear h hT
      go_wp2_with (first
        | (go_at_call 102; refine (flush_held HD.out HP.out.ok hpd).mono ?_; rintro e w2 ⟨rfl, g2⟩; have G2 := hid g2; clear g2))
      go_ret
      refine ⟨rfl, ?_⟩
      rw [← HP.out.segs, ← HP.out.disk]
      exact G2.out.pull1
    · obtain ⟨gs, gr, h1⟩ := h.lopen
      obtain ⟨g, sc, rfl, hq1, -, -⟩ := h1.pull1.seg_at (j := 0) (by simp)
      obtain ⟨s0, s2⟩ := two_seen h1.pull1
      have c0 : wr.cell? ⟨q, 0, none⟩ = some (.pointer (some ⟨p, 0, none⟩)) := h1.blk0.cell rfl
      have c1 : wr.cell? ⟨q, 1, none⟩ = some (.slice (some ⟨g, 0, none⟩) (m1.length + 2) sc) := h1.blk0.cell rfl
      have hn1 : (1 : Int) < (m1.length : Int) + 2 := by omega
      have hn2 : (0 : Int) < (m1.length : Int) + 2 := by omega
      by_cases hle : (t1.1 : Int) ≤ tt
      · obtain ⟨x1, x2, x3, x4⟩ := hT.step hle hn
        have hpd : d1.pending.length ≤ 1000000 := by have := hT.pend; omega
        have HDR := hid (fun B1 w1 (g1 : Held w0 w1 (rDisk p d1 :: B1)) => drop_held g1 hT.ok hpd (nameB s1.1) (by rw [Slog.nameB_length]; omega))
        rw [x1] at HDR
        have HX := hid x2
        have hnr := hT.recs.1
        have hml := hT.recs.2
        simp only [List.length_cons] at hml
        have HN := hid (fun w => name_any w s1.1 x4)
        have H1 := hid h1
        obtain ⟨d2, hd2⟩ : ∃ d2, d2 = (d1.drop (nameB s1.1)).1 := ⟨_, rfl⟩
        rw [← hd2] at HDR HX
        have HTS := hid (fun w1 B1 (g1 : Held w0 w1 (rRows 2 134 (.slice (some ⟨g, 0, none⟩) (m1.length + 2) sc) ((s1 :: t1 :: m1).map segRow) :: B1)) => two_seen g1)
        obtain ⟨b, hb⟩ : ∃ b, b = t1.1 := ⟨_, rfl⟩
        rw [← hb] at s2 HTS x3 hle
        obtain ⟨a, ha⟩ : ∃ a, a = s1.1 := ⟨_, rfl⟩
        rw [← ha] at s0 HTS x3 HN HDR
        clear h h1 x2 hd2 x1 hT x4 hb ha
        go_wp2_with fail
        -- [blk, rows, recs, disk, B]
        go_region_held3 (fun w' => w'.cell? ⟨q, 0, none⟩ = some (.pointer (some ⟨p, 0, none⟩)) ∧ w'.cell? ⟨q, 1, none⟩ = some (.slice (some ⟨g, 0, none⟩) (m1.length + 2) sc) ∧ w'.cell? ⟨g, 0, none⟩ = some (.int .i64 a))
          (first | exact ⟨c0, c1, s0⟩ | exact ⟨e0, e1, u0⟩ | exact ⟨f0, f1, y0⟩)
          (first
            | (go_at_call 72; refine (HN.out _).mono ?_; rintro e w2 ⟨rfl, m2⟩; have g2 := H1.out.drew.step m2; have b2 := g2.blk0; have e0 : w2.cell? ⟨q, 0, none⟩ = some (.pointer (some ⟨p, 0, none⟩)) := b2.cell rfl; have e1 : w2.cell? ⟨q, 1, none⟩ = some (.slice (some ⟨g, 0, none⟩) (m1.length + 2) sc) := b2.cell rfl; obtain ⟨u0, -⟩ := HTS.out _ _ g2.pull1; have G2 := hid g2.pull3; clear g2 b2 m2)
            | (go_at_call 100; refine (HDR.out _ _ G2.out).mono ?_; rintro e w3 ⟨rfl, g3⟩; have b3 := g3.pull1.blk0; have f0 : w3.cell? ⟨q, 0, none⟩ = some (.pointer (some ⟨p, 0, none⟩)) := b3.cell rfl; have f1 : w3.cell? ⟨q, 1, none⟩ = some (.slice (some ⟨g, 0, none⟩) (m1.length + 2) sc) := b3.cell rfl; have f2 : w3.cell? ⟨q, 2, none⟩ = some gr := b3.cell rfl; have ff2 := b3.frozen 2; obtain ⟨y0, y2⟩ := HTS.out _ _ g3.pull2; have G3 := hid g3; clear g3 b3))
        all_goals
          clear e0 e1 u0 c0 c1 s0 s2 G2 H1
          go_wp2_with fail
          obtain ⟨rA, rc, rfl, hr1, hr2⟩ := G3.out.pull3.recs_form
          obtain ⟨bvs, hbl, g5⟩ := G3.out.pull3.recs_open
          have hbn : s1.2.length ≤ (recsOf (s1 :: t1 :: m1)).length := by
            have : recsOf (s1 :: t1 :: m1) = s1.2 ++ recsOf (t1 :: m1) := rfl
            rw [this, List.length_append]; omega
          obtain ⟨A5, c5, hsl, hrd⟩ := slice_recs (Held.own_rd (l1 := []) g5) hbn
          have hrd1 : ∀ u ∈ bvs.drop s1.2.length, u.oneCell' = true := fun u hu => recs_one hbl g5.pull1 u (List.mem_of_mem_drop hu)
          have HCL := hid (clone_recs (fun _ => True) w3.drew _ _ hrd.drew hrd1 (by rw [List.length_drop, hbl]; omega))
          have HD5 := hid (recsOf_drop s1 (t1 :: m1))
          obtain ⟨bk, hbk⟩ : ∃ bk, bk = bvs.drop s1.2.length := ⟨_, rfl⟩
          have hbkl : bk.length = (recsOf (s1 :: t1 :: m1)).length - s1.2.length := by rw [hbk, List.length_drop, hbl]
          rw [← hbk] at HCL
          generalize hn' : (recsOf (s1 :: t1 :: m1)).length = n at *
          generalize hkk : s1.2.length = k at *
          have hw : IntKind.i64.wrap ((b : Int) - (a : Int)) = (k : Int) := by rw [IntKind.wrap_i64]; omega
          have hk0 : (0 : Int) ≤ (k : Int) := by omega
          have hkn : (k : Int) ≤ (n : Int) := by omega
          have GR := hid g5
          have HBL := hid hbl
          have HHN := hid (And.intro hn' hkk)
          have HBK := hid hbk
          have HBKL := hid hbkl
          clear g5 hrd hrd1 G3 hbl hn' hkk hbk hbkl
          go_region_law (go_simp; go_at_call 111; refine HCL.out.mono ?_; rintro e w4 ⟨v4, F4, rfl, ho, hu⟩; obtain ⟨A4, c4, rfl⟩ := ho.form; have g4 := GR.out.drew.more (R := rOwn 87 _ bk) ho hu; have b4 := g4.pull4.blk0; have v1 : w4.cell? ⟨q, 1, none⟩ = some (.slice (some ⟨g, 0, none⟩) (m1.length + 2) sc) := b4.cell rfl; obtain ⟨v0, v2⟩ := HTS.out _ _ g4.pull5; have e2 := b4.cell (i := 2) rfl; have e3 := b4.frozen 2; have gs4 := Held.store (l1 := [_, _, _, _]) g4 2 (.slice A4 bk.length c4); have b5 := Held.blk (l1 := [_, _, _, _]) gs4; have z1 : (w4.setCell ⟨q, 2, none⟩ (.slice A4 bk.length c4)).cell? ⟨q, 1, none⟩ = some (.slice (some ⟨g, 0, none⟩) (m1.length + 2) sc) := b5.cell rfl; obtain ⟨z0, z2⟩ := HTS.out _ _ (Held.pull5 gs4); have G4 := hid gs4; clear g4 b4 gs4 b5 ho hu)
          all_goals
            have b5 := Held.blk (l1 := [_, _, _, _]) G4.out
            have p1 : (w4.setCell ⟨q, 2, none⟩ (.slice A4 bk.length c4)).frozen? ⟨q, 1, none⟩ = false := b5.frozen 1
            have hfl := Held.rows_flat (Held.pull5 G4.out)
            clear b5 v0 v1 v2 e2 e3 y0 y2 f0 f1 f2 ff2 HCL
            generalize w4.setCell ⟨q, 2, none⟩ (.slice A4 bk.length c4) = w5 at *
            have hcell : ∀ j u, (((t1 :: m1).map segRow).flatten)[j]? = some u → w5.cell? ((⟨g, 2, none⟩ : Addr).add j) = some u := by
              intro j u hu
              have := hfl (2 + j) u (by
                rw [List.map_cons, List.flatten_cons]
                rw [List.getElem?_append_right (by simp [segRow])]
                rw [show 2 + j - (segRow s1).length = j by simp [segRow]]
                exact hu)
              rw [show (⟨g, 2, none⟩ : Addr).add j = ⟨g, 2 + j, none⟩ by unfold Addr.add; split <;> simp_all]
              exact this
            have HC6 := hid (clone_segs w5 ⟨g, 2, none⟩ (m1.length + 1) (sc - 1) (((t1 :: m1).map segRow).flatten) (by rw [flatten_length (segRows_two _)]; simp) hcell (segRows_one _) (by omega))
            have hs2 := slice_segs g m1.length sc hq1
            clear hfl hcell
            go_wp2_with (first
              | (go_at_call 112; refine HC6.out.mono ?_; rintro e w6 ⟨v6, F6, rfl, ho, hu⟩; obtain ⟨A6, c6, rfl⟩ := ho.form; have g6 := G4.out.more (R := rRows 2 134 _ ((t1 :: m1).map segRow)) (own_rows (segRows_two _) (by rw [List.length_map]; exact ho)) hu; have b6 := Held.blk (l1 := [_, _, _, _, _]) g6; have x1 := b6.cell (i := 1) rfl; have x2 := b6.frozen 1; have G6 := hid (Held.store (l1 := [_, _, _, _, _]) g6 1 (.slice A6 (m1.length + 1) c6)); clear g6 b6 ho hu))
            have g7 := ((G6.out : Held w0 _ (rRows 2 134 (.slice A6 (m1.length + 1) c6) ((t1 :: m1).map segRow) :: rOwn 87 (.slice A4 bk.length c4) bk :: rOwn 87 (.slice rA n rc) bvs :: rBig bytesLoc (bvs.zip (recsOf (s1 :: t1 :: m1))) :: rDisk p d2 :: rBlk q 130 #[.pointer (some ⟨p, 0, none⟩), .slice A6 (m1.length + 1) c6, .slice A4 bk.length c4, .int .i64 next] :: rRows 2 134 _ _ :: B)).pull6.drop0).push3
            have e := HBK.out
            rw [e] at g7
            have g8 := Held.recs_cut (by rw [HBL.out, HHN.out.1]) g7
            rw [HD5.out] at g8
            clear g7
            have g9 := Held.lshut (l := t1 :: m1) g8.pull3.pull2.pull1
            refine ⟨⟨_, _, g9, HX.out⟩, ?_⟩
            rw [g9.lenAt, HL.out]
            simp
      · have hgt : decide ((t1.1 : Int) ≤ tt) = false := by rw [decide_eq_false_iff_not]; omega
        have HD := hid h.pull1
        have HP := hid hT
        have HLE := hid hle
        have hpd : d1.pending.length ≤ 1000000 := by have := hT.pend; omega
        clear h hT h1
        go_wp2_with (first
          | (go_at_call 102; refine (flush_held HD.out HP.out.ok hpd).mono ?_; rintro e w2 ⟨rfl, g2⟩; have G2 := hid g2; clear g2))
        go_ret
        refine ⟨rfl, ?_⟩
        rw [← HP.out.segs, ← HP.out.disk, trimF_stop (by have := HLE.out; omega), dropped_stop (by have := HLE.out; omega)]
        exact G2.out.pull1
end
end Go.Proofs.YtdbhccehbjhbpaaGreatDoor
