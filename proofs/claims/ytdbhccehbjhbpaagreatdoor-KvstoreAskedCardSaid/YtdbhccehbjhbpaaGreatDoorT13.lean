/- seglog: Append over Held. (Printed by gen_T13.py.) -/
import Derived.Test.YtdbhccehbjhbpaaGreatDoorTC

namespace Go.Proofs.YtdbhccehbjhbpaaGreatDoor
open Go.RowKit
open Slog (Seg recsOf nameB Lg framed)
open Disk (Dk)

/-- what Append leaves: 'wr' is what the write gave. -/
def APost (w0 : World) (B : List Res) (q p : Nat) (R : Res) (wr : Dk × Int) (l0 l1 : List Seg) (next : Nat) : Ending → World → Prop := fun e w' =>
  if wr.2 = 0 then e = .returned (.tuple #[.int .i64 next, .int .i64 0]) ∧ Held w0 w' (rLog q p l1 (next + 1) :: rDisk p wr.1 :: R :: B)
  else e = .returned (.tuple #[.int .i64 0, .int .i64 wr.2]) ∧ Held w0 w' (rLog q p l0 next :: rDisk p wr.1 :: R :: B)
theorem APost.yes {w0 w' : World} {B : List Res} {q p : Nat} {R : Res} {wr : Dk × Int} {l0 l1 : List Seg} {next : Nat} (he : wr.2 = 0) (h : Held w0 w' (rLog q p l1 (next + 1) :: rDisk p wr.1 :: R :: B)) :
    APost w0 B q p R wr l0 l1 next (.returned (.tuple #[.int .i64 next, .int .i64 0])) w' := by unfold APost; rw [if_pos he]; exact ⟨rfl, h⟩
theorem APost.no {w0 w' : World} {B : List Res} {q p : Nat} {R : Res} {wr : Dk × Int} {l0 l1 : List Seg} {next : Nat} (he : wr.2 ≠ 0) (h : Held w0 w' (rLog q p l0 next :: rDisk p wr.1 :: R :: B)) :
    APost w0 B q p R wr l0 l1 next (.returned (.tuple #[.int .i64 0, .int .i64 wr.2])) w' := by unfold APost; rw [if_neg he]; exact ⟨rfl, h⟩
/-- what is read of a thing wherever it stands. -/
def SrcR (w0 : World) (R : Res) (v : Value) (xs : List Value) : Prop := ∀ w' M N, Held w0 w' (M ++ R :: N) → Rd (fun _ => True) w' v xs
theorem srcR_bytes {w0 : World} {v : Value} {l : List UInt8} : SrcR w0 (rBytes v l) v (bytesV l) := fun _ _ _ h => h.bytes
theorem SrcR.form {w0 w : World} {R : Res} {v : Value} {l : List UInt8} (h : SrcR w0 R v (bytesV l)) {M N : List Res} (g : Held w0 w (M ++ R :: N)) : ∃ A c, v = .slice A l.length c := by
  obtain ⟨A, c, hv, -⟩ := h w M N g
  rw [bytesV_length] at hv
  exact ⟨A, c, hv⟩
/-- a source that is held. -/
theorem src_held0 {w0 : World} {B : List Res} {v : Value} {l : List UInt8} : Src w0 [] (rBytes v l :: B) v (bytesV l) := fun _ M h => Held.bytes (l1 := M) h
theorem src_heldC {w0 : World} {B : List Res} {R : Res} {v : Value} {xs : List Value} (h : Src w0 [] B v xs) : Src w0 [] (R :: B) v xs := fun w' M g => h w' (M ++ [R]) (by simpa using g)
theorem recsOf_add (l : List Seg) (n : Nat) (r : List UInt8) : recsOf (l ++ [(n, [r])]) = recsOf l ++ [r] := by rw [Slog.recsOf_append]; rfl
theorem recsOf_more (ls : List Seg) (s : Seg) (r : List UInt8) : recsOf (ls ++ [(s.1, s.2 ++ [r])]) = recsOf (ls ++ [s]) ++ [r] := by
  rw [Slog.recsOf_append, Slog.recsOf_append, Slog.recsOf_one, Slog.recsOf_one, List.append_assoc]
theorem segRow_new (n : Nat) (r : List UInt8) : segRow (n, [r]) = [.int .i64 n, .int .i64 (framed n r).length] := by
  unfold segRow Seg.bytes
  rw [Slog.framesOf_cons]
  simp [Slog.framesOf]

theorem rows_more {ls : List Seg} {s : Seg} {r : List UInt8} {next m : Nat} (hm : m = ls.length) (hnx : s.1 + s.2.length = next) :
    ((ls ++ [s]).map segRow).set m ((segRow s).set 1 (.int .i64 ((s.bytes.length : Int) + ((framed next r).length : Int)))) = (ls ++ [(s.1, s.2 ++ [r])]).map segRow := by
  subst hm
  have hb : Seg.bytes (s.1, s.2 ++ [r]) = s.bytes ++ framed next r := by
    unfold Seg.bytes
    rw [Slog.framesOf_snoc, hnx]
  rw [List.map_append, List.map_append, List.set_append_right _ _ (by simp)]
  simp only [List.length_map, Nat.sub_self, List.map_cons, List.map_nil, List.set_cons_zero]
  unfold segRow
  rw [hb]
  simp
section
variable {w0 w : World} {B : List Res} {q p next : Nat} {l : List Seg} {d : Dk} {v : Value} {r : List UInt8} {R : Res}
theorem seg_cells {g n sc : Nat} (h : Held w0 w (rRows 2 134 (.slice (some ⟨g, 0, none⟩) n sc) (l.map segRow) :: B)) {j : Nat} (hj : j < l.length) :
    w.cell? ⟨g, j * 2, none⟩ = some (.int .i64 l[j].1) ∧ w.cell? ⟨g, j * 2 + 1, none⟩ = some (.int .i64 l[j].bytes.length) := by
  obtain ⟨g', c', hv, -, f0, f1⟩ := h.seg_at hj
  injection hv with hv1 hv2 hv3
  injection hv1 with hv1
  injection hv1 with hv1
  subst hv1
  exact ⟨f0, f1⟩
theorem Held.lshut_new {gs gr : Value} {n' : Nat} (h : Held w0 w (rBlk q 130 #[.pointer (some ⟨p, 0, none⟩), gs, gr, .int .i64 n'] :: rRows 2 134 gs (l.map segRow ++ [[.int .i64 next, .int .i64 (framed next r).length]]) :: rRecs gr (recsOf l ++ [r]) :: B)) : Held w0 w (rLog q p (l ++ [(next, [r])]) n' :: B) := by
  refine Held.lshut (gs := gs) (gr := gr) ?_
  rw [recsOf_add, List.map_append, List.map_cons, List.map_nil, segRow_new]
  exact h
theorem Held.lshut_more {gs gr : Value} {n' m : Nat} {ls : List Seg} {s : Seg} (hl : l = ls ++ [s]) (hm : m = ls.length) (hnx : s.1 + s.2.length = next) (h : Held w0 w (rBlk q 130 #[.pointer (some ⟨p, 0, none⟩), gs, gr, .int .i64 n'] :: rRows 2 134 gs ((l.map segRow).set m ((segRow s).set 1 (.int .i64 ((s.bytes.length : Int) + ((framed next r).length : Int))))) :: rRecs gr (recsOf l ++ [r]) :: B)) : Held w0 w (rLog q p (ls ++ [(s.1, s.2 ++ [r])]) n' :: B) := by
  refine Held.lshut (gs := gs) (gr := gr) ?_
  rw [recsOf_more, ← hl, ← rows_more hm hnx, ← hl]
  exact h
set_option maxRecDepth 100000 in
theorem lappend_long (hR : SrcR w0 R v (bytesV r)) (h : Held w0 w (rLog q p l next :: rDisk p d :: R :: B)) (hn : next ≤ 245) (hr : 65535 < r.length) (hr2 : r.length ≤ 70368744177664) :
    Calls Tryz.prog 39 #[.pointer (some ⟨q, 0, none⟩), v] w fun e w' => e = .returned (.tuple #[.int .i64 0, .int .i64 4]) ∧ Held w0 w' (rLog q p l next :: rDisk p d :: R :: B) := by
  obtain ⟨sA, sc, rA, rc, h2, h3, h4, h5, c0, c1, c2, c3⟩ := h.lseen
  obtain ⟨A, c, rfl⟩ := hR.form (M := [_, _]) h
  have HR := hid hR
  clear hR
  have HM := hid (lmade_any w q p c0)
  have HF := hid (framed_long (fun _ => True) w next (by omega) _ r (HR.out _ [_, _] _ h) hr hr2)
  have HH := hid h
  clear h
  go_enter Tryz.func39, Tryz.ntmps39
  go_wp2_with (first
    | (go_at_call 69; refine HM.out.mono ?_; rintro e w' ⟨rfl, rfl⟩)
    | (go_at_call 70; refine HF.out.mono ?_; rintro e w' ⟨rfl, m1⟩; have H1 := hid (HH.out.step m1); clear m1))
  go_ret2
  exact ⟨rfl, H1.out⟩

set_option maxRecDepth 100000 in
set_option maxHeartbeats 4000000 in
theorem lappend_nil (hR : SrcR w0 R v (bytesV r)) (h : Held w0 w (rLog q p [] next :: rDisk p d :: R :: B)) (hl : l = []) (hok : d.Ok) (hpl : d.pending.length ≤ 1000000) {nm : Nat} (hnm : NameOk w0 nm) (hn0 : next < nm) (hn : next ≤ 245) (hr : r.length ≤ 65535) (hrec : (recsOf l).length ≤ 1000000) :
    Calls Tryz.prog 39 #[.pointer (some ⟨q, 0, none⟩), v] w (APost w0 B q p R (d.write (nameB next) (framed next r)) [] [(next, [r])] next) := by
  obtain ⟨A, c, rfl⟩ := hR.form (M := [_, _]) h
  have HR := hid hR
  clear hR
  subst hl
  obtain ⟨gs, gr, h1⟩ := h.lopen
  obtain ⟨sA, sc, rfl, hs1, hs2⟩ := Held.rows_form (l1 := [_]) h1
  obtain ⟨rA, rc, rfl, hr1, hr2⟩ := h1.pull2.recs_form
  simp only [List.map_nil, List.length_nil, recsOf, List.flatten_nil] at h1 hs1 hr1
  have c0 : w.cell? ⟨q, 0, none⟩ = some (.pointer (some ⟨p, 0, none⟩)) := h1.blk0.cell rfl
  have c1 : w.cell? ⟨q, 1, none⟩ = some (.slice sA 0 sc) := h1.blk0.cell rfl
  have c3 : w.cell? ⟨q, 3, none⟩ = some (.int .i64 next) := h1.blk0.cell rfl
  have HM := hid (lmade_any w q p c0)
  have HF := hid (framed_any (fun _ => True) w next (by omega) _ r (HR.out _ [_, _, _, _] _ h1) hr)
  have HN := hid (hnm next hn0)
  have HH := hid h1
  have HO := hid (And.intro hok hpl)
  have hfl : (framed next r).length ≤ 70000 := by rw [Slog.framed_length (by omega)]; omega
  obtain ⟨fr, hfr⟩ : ∃ fr, fr = framed next r := ⟨_, rfl⟩
  rw [← hfr] at HF hfl ⊢
  have HE := hid hfr
  have HNR := hid (show ([] : List (List Value)).length = 0 from rfl)
  have HL6 := hid (show ([] : List (List UInt8)).length ≤ 1000000 by simp)
  obtain ⟨i0, hi, hz0, hz1, hz2⟩ := info_parts Tryz.infoBytes
  have HI := hid (And.intro hi (And.intro hz0 (And.intro hz1 hz2)))
  clear h h1 hok hpl hfr hi hz0 hz1 hz2
  go_enter Tryz.func39, Tryz.ntmps39
  go_wp2_with (first
    | (go_at_call 69; refine HM.out.mono ?_; rintro e w' ⟨rfl, rfl⟩)
    | (go_at_call 70; refine HF.out.mono ?_; rintro e w1 ⟨vb, F1, rfl, ho, hu⟩; have g1 := HH.out.more (R := rBytes vb fr) (own_bytes ho) hu; obtain ⟨bA, bc, rfl, -, -⟩ := Held.form (l1 := []) g1; have b1 := g1.pull1.blk0; have d0 : w1.cell? ⟨q, 0, none⟩ = some (.pointer (some ⟨p, 0, none⟩)) := b1.cell rfl; have d1 : w1.cell? ⟨q, 1, none⟩ = some (.slice sA 0 sc) := b1.cell rfl; have d3 : w1.cell? ⟨q, 3, none⟩ = some (.int .i64 next) := b1.cell rfl; have G1 := hid g1; clear g1 ho hu b1))
  -- [vb, blk, rows, recs, disk, v, B]
  go_region_held3 (fun w' => w'.cell? ⟨q, 0, none⟩ = some (.pointer (some ⟨p, 0, none⟩)) ∧ w'.cell? ⟨q, 3, none⟩ = some (.int .i64 next))
    (first | exact ⟨d0, d3⟩ | exact ⟨e0, e3⟩ | exact ⟨f0, f3⟩)
    (first
      | (go_at_call 72; refine (HN.out _ G1.out.drew.mod).mono ?_; rintro e w2 ⟨rfl, m2⟩; have g2 := G1.out.drew.step m2; have b2 := g2.pull1.blk0; have e0 : w2.cell? ⟨q, 0, none⟩ = some (.pointer (some ⟨p, 0, none⟩)) := b2.cell rfl; have e3 : w2.cell? ⟨q, 3, none⟩ = some (.int .i64 next) := b2.cell rfl; have G2 := hid g2.pull4; clear g2 b2 m2)
      | (go_at_call 73; refine (write_held G2.out HO.out.1 HO.out.2 (nameB next) (by rw [Slog.nameB_length]; omega) fr bA bc src_held0 (by omega)).mono ?_; rintro e w3 ⟨rfl, g3⟩; have b3 := g3.pull2.blk0; have f0 : w3.cell? ⟨q, 0, none⟩ = some (.pointer (some ⟨p, 0, none⟩)) := b3.cell rfl; have f3 : w3.cell? ⟨q, 3, none⟩ = some (.int .i64 next) := b3.cell rfl; have f1 : w3.cell? ⟨q, 1, none⟩ = some (.slice sA 0 sc) := b3.cell rfl; have G3 := hid g3; clear g3 b3))
  all_goals
    generalize d.write (nameB next) fr = wr at *
    obtain ⟨d1, er⟩ := wr
    by_cases he : er = 0
    · subst he
      have b3 := G3.out.pull2.blk0
      have f1a := fun o => (b3.alloc o).cell (i := 1) rfl
      have f3a := fun o => (b3.alloc o).cell (i := 3) rfl
      clear b3
      obtain ⟨iS, iz, is, ib, iy⟩ := info_parts Tryz.infoSeg
      have HIs := hid (And.intro iz (And.intro is (And.intro ib iy)))
      clear iz is ib iy
      go_wp2_with fail
      go_region_law (first
          | (refine step_append_row [] _ rfl _ _ 128 rfl 2 134 iS _ 16 Tryz.underlying128 HIs.out.1 HIs.out.2.1 HIs.out.2.2.1 HIs.out.2.2.2 rfl (by decide) _ [] 0 HNR.out rfl (G3.out.pull3.step (by repeat (first | exact Mod.refl _ _ | refine Mod.alloc ?_ _ | refine Mod.drew ?_))) _ _ [.int .i64 next, .int .i64 fr.length] rfl rfl (World.news_of_block (heap_alloc_new w3 _)) (by intro u hu; simp only [List.mem_cons, List.not_mem_nil, or_false] at hu; rcases hu with rfl | rfl <;> rfl) (by omega) (by unfold maxLen; omega) ?_; intro A4 c4 w4 q1 q2 g4; have b4 := g4.pull3.blk0; have x1 := b4.cell (i := 1) rfl; have x2 := b4.frozen 1; have x3 : w4.cell? ⟨q, 3, none⟩ = some (.int .i64 next) := b4.cell rfl; have g5 := Held.store (l1 := [_, _, _]) g4 1 (.slice A4 (0 + 1) c4); have x3s : (w4.setCell ⟨q, 1, none⟩ (.slice A4 (0 + 1) c4)).cell? ⟨q, 3, none⟩ = some (.int .i64 next) := (Held.blk (l1 := [_, _, _]) g5).cell rfl; have G4 := hid g5; clear g4 g5 b4))
      all_goals
        have HT : Hid (Held w0 (w4.setCell ⟨q, 1, none⟩ (.slice A4 (0 + 1) c4)) (rBlk q 130 #[.pointer (some ⟨p, 0, none⟩), .slice A4 (0 + 1) c4, .slice rA 0 rc, .int .i64 next] :: rRows 2 134 (.slice A4 (0 + 1) c4) ([] ++ [[.int .i64 next, .int .i64 fr.length]]) :: rRecs (.slice rA 0 rc) ([]) :: rDisk p d1 :: rBytes (.slice bA fr.length bc) fr :: R :: B)) := hid (G4.out.pull3.pull4.push2)
        clear G4 x1 x2 x3 q1 q2
        generalize w4.setCell ⟨q, 1, none⟩ (.slice A4 (0 + 1) c4) = wT at *
        obtain ⟨gsT, hgsT⟩ : ∃ gsT, gsT = Value.slice A4 (0 + 1) c4 := ⟨_, rfl⟩
        obtain ⟨bvs, hbl, g5⟩ := HT.out.pull2.recs_open
        have HBL := hid hbl
        have b5 := g5.pull2.blk0
        have k2 : wT.cell? ⟨q, 2, none⟩ = some (.slice rA 0 rc) := b5.cell rfl
        have HRd := hid (HR.out _ [_, _, _, _, _, _] _ g5)
        have GR := hid g5
        clear g5 hbl b5
        go_wp2_with fail
        go_region_law (first
            | (go_simp; go_at_call 74; refine (bclone_held GR.out.drew (fun _ => True) _ r HRd.out.drew (by omega)).mono ?_; rintro e w6 ⟨v6, rfl, g6⟩; obtain ⟨A6, c6, rfl, -, -⟩ := Held.form (l1 := []) g6; have b6 := g6.pull3.blk0; have d2 : w6.cell? ⟨q, 2, none⟩ = some (.slice rA 0 rc) := b6.cell rfl; have d2a : ∀ o, (w6.alloc o).cell? ⟨q, 2, none⟩ = some (.slice rA 0 rc) := fun o => (b6.alloc o).cell rfl; have G6 := hid g6.pull1; clear g6 b6)
            | (refine step_append_held [] _ rfl _ _ 104 rfl 87 i0 (.slice none 0 0) 24 Tryz.underlying104 HI.out.1 HI.out.2.1 HI.out.2.2.1 HI.out.2.2.2 rfl _ bvs rfl (G6.out.step (by repeat (first | exact Mod.refl _ _ | refine Mod.alloc ?_ _ | refine Mod.drew ?_))) _ (.slice (some ⟨w6.heap.size, 0, none⟩) 1 1) [.slice A6 r.length c6] rfl (own_built 87 w6 [.slice A6 r.length c6] (by simp [maxLen])).rd (by simp [Value.oneCell']) (by have := HL6.out; rw [HBL.out, List.length_singleton]; omega) (by have := HL6.out; rw [HBL.out, List.length_singleton]; unfold maxLen; omega) ?_; intro A7 c7 w7 q1 q2 g7; have b7 := g7.pull3.blk0; have x1 := b7.cell (i := 2) rfl; have x2 := b7.frozen 2; have G7 := hid (Held.store (l1 := [_, _, _]) g7 2 (.slice A7 (bvs.length + 1) c7)); clear g7 b7))
        all_goals
          have g8 := (G7.out : Held w0 _ (rOwn 87 _ _ :: rBytes (.slice A6 r.length c6) r :: rBig bytesLoc _ :: rBlk q 130 #[.pointer (some ⟨p, 0, none⟩), _, .slice A7 (bvs.length + 1) c7, .int .i64 next] :: _)).pull2.pull1
          have g9 := (Held.recs_snoc HBL.out g8).push2
          clear g8
          generalize w7.setCell ⟨q, 2, none⟩ (.slice A7 (bvs.length + 1) c7) = w8 at *
          have b9 := g9.blk0
          have y3 : w8.cell? ⟨q, 3, none⟩ = some (.int .i64 next) := b9.cell rfl
          have y4 := b9.frozen 3
          have G10 := hid (Held.store (l1 := []) g9 3 (.int .i64 ((next : Int) + 1)))
          clear g9 b9 G7 x1 x2
          go_wp2_with fail
          go_ret2
          have g11 : Held w0 (w8.setCell ⟨q, 3, none⟩ (.int .i64 ((next : Int) + 1))) (rBlk q 130 #[.pointer (some ⟨p, 0, none⟩), _, .slice A7 (bvs.length + 1) c7, .int .i64 ((next + 1 : Nat) : Int)] :: _) := G10.out
          rw [HE.out, ← segRow_new] at g11
          exact APost.yes rfl ((Held.lshut g11).pull2.drop0)
    · have he2 : (er != 0) = true := bne_iff_ne.2 he
      go_wp2_with fail
      go_ret2
      exact APost.no he (Held.lshut (gs := .slice sA 0 sc) (G3.out.pull1.drop0.push3)) 
end
end Go.Proofs.YtdbhccehbjhbpaaGreatDoor
