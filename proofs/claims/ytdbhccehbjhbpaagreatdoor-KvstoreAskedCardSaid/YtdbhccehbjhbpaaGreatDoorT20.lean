/- seglog: Open over Held, over what a crash leaves. (Printed by gen_T20.py.) -/
import Derived.Test.YtdbhccehbjhbpaaGreatDoorT19
import Derived.Test.YtdbhccehbjhbpaaGreatDoorS5

namespace Go.Proofs.YtdbhccehbjhbpaaGreatDoor
open Go.RowKit
open Slog (Seg recsOf nameB Lg framed Chain Holds framesOf unframe Small)
open Disk (Dk Dict)

def nxt (k : Nat) (segs : List Seg) (i : Nat) : Nat := if i = 0 then 1 else k + (recsOf (segs.take i)).length
def OpenAt (w0 : World) (B : List Res) (q p k : Nat) (tv : Value) (d : Dk) (segs : List Seg) (wv iv : Value) (wr : World) : Prop :=
  ∃ (i : Nat) (b : Bool), i ≤ segs.length ∧ iv = .int .i64 (i : Nat) ∧ wv = .bool b ∧ (i < segs.length → b = true) ∧ Held w0 wr (rTexts tv d.list :: rLog q p (segs.take i) (nxt k segs i) :: rDisk p d :: B)

section
variable {w0 w : World} {B : List Res} {q p : Nat} {d : Dk}
theorem Held.recs_join {v u : Value} {bvs cvs : List Value} {rs ts : List (List UInt8)} (h1 : bvs.length = rs.length) (h2 : cvs.length = ts.length) (h : Held w0 w (rOwn 87 v (bvs ++ cvs) :: rBig bytesLoc (bvs.zip rs) :: rOwn 87 u cvs :: rBig bytesLoc (cvs.zip ts) :: B)) : Held w0 w (rRecs v (rs ++ ts) :: B) := by
  refine Held.recs_shut (bvs ++ cvs) (by simp [h1, h2]) ?_
  rw [List.zip_append h1]
  exact Held.big_join (l1 := [_]) bytesLoc h.pull2.drop0
theorem Held.text_at {v : Value} {l : List Disk.Bytes} (h : Held w0 w (rTexts v l :: B)) {i : Nat} (hi : i < l.length) : ∃ b off c, v = .slice (some ⟨b, off, none⟩) l.length c ∧ w.cell? ⟨b, off + i, none⟩ = some (sv l[i]) := by
  obtain ⟨A, c, hv, hc, hm, hA⟩ := h.texts
  obtain ⟨b, off, rfl, -, hcell⟩ := hA (by intro e; have := congrArg List.length e; simp at this; rw [this] at hi; simp at hi)
  exact ⟨b, off, c, by rw [hv, List.length_map], hcell i _ (by rw [List.getElem?_map, List.getElem?_eq_getElem hi]; rfl)⟩
theorem Slog.Left.list_len {segs : List Seg} (h : d.list = segs.map fun s => nameB s.1) : d.list.length = segs.length ∧ d.seen.length = segs.length := by
  have h1 : d.list.length = segs.length := by rw [h, List.length_map]
  refine ⟨h1, ?_⟩
  unfold Dk.list at h1
  rw [List.length_mergeSort, List.length_map] at h1
  exact h1
theorem Slog.cut_pend (name : Disk.Bytes) (n : Int) : (d.cut name n).1.pending.length ≤ d.pending.length + 1 := by
  unfold Dk.cut
  split
  · simp
  · split
    · simp
    · split
      · simp
      · simp [Dk.act]

set_option maxRecDepth 100000 in
set_option maxHeartbeats 4000000 in
theorem open_held {segs : List Seg} {k n : Nat} (h : Held w0 w (rDisk p d :: B)) (hL : Slog.Left d segs) (hc : Chain k segs n) (h1 : 1 ≤ k ∧ (segs = [] → k = 1)) (hpos : ∀ ls s, segs = ls ++ [s] → ∀ t ∈ ls, 0 < t.2.length) (hsm : ∀ s ∈ segs, ∀ r ∈ s.2, r.length ≤ 65535) (hn : n ≤ 98) (hpl : d.pending.length ≤ 1000) :
    Calls Tryz.prog 59 #[.pointer (some ⟨p, 0, none⟩)] w fun e w' => ∃ q, e = .returned (.tuple #[.pointer (some ⟨q, 0, none⟩), .int .i64 0]) ∧ Held w0 w' (rLog q p segs n :: rDisk p (Slog.opened d segs) :: B) := by
  have hsl := Slog.chain_len hc hpos
  have hlist := hL.list hc (by omega) hpos
  have hll := Slog.Left.list_len hlist
  have HC := hid (clone_disk h hL.ok (by omega))
  have HLI := hid (fun w1 B1 (g1 : Held w0 w1 (rDisk p d :: B1)) => list_held g1 hL.ok (by omega))
  have HX := hid (And.intro hL (And.intro hc (And.intro h1 (And.intro hsm hlist))))
  have HLL := hid hll.1
  obtain ⟨n0, hn0⟩ : ∃ n0, n0 = segs.length := ⟨_, rfl⟩
  have HNL := hid hn0
  have hn06 : n0 ≤ 100 := by omega
  clear h hL hc h1 hpos hsm hsl hlist hll hn0
  go_enter Tryz.func59, Tryz.ntmps59
  go_wp2_with (first
    | (go_at_call 95; refine HC.out.mono ?_; rintro e w1 ⟨q0, rfl, g1⟩; have g2 := (((g1.drop0.block 130 #[.pointer (some ⟨p, 0, none⟩), .slice none 0 0, .slice none 0 0, .int .i64 (1 : Nat)]).recs_nil.rows_nil 2 134).pull2); have g3 := (Held.lshut (l := []) g2).pull1; have G3 := hid g3; clear g1 g2 g3)
    | (go_at_call 96; refine (HLI.out _ _ G3.out).mono ?_; rintro e w2 ⟨tv, rfl, g4⟩; obtain ⟨tA, tc, rfl, ht1, ht2⟩ := g4.texts_form; rw [HLL.out, ← HNL.out] at ht1 g4 ⊢; have G4 := hid g4.pull2.pull1; clear g4))
  generalize w1.heap.size = q at *
  clear HC HLI
  go_loopw [5, 25] (fun wv iv wr => OpenAt w0 B q p k (.slice tA n0 tc) d segs wv iv wr) (fun _ iv _ => n0 - (intOf iv).toNat)
  case atStart => exact ⟨0, true, Nat.zero_le _, rfl, rfl, fun _ => rfl, G4.out⟩
  case round =>
    clear G3 G4
    obtain ⟨i, b, hi, rfl, rfl, hb, hh⟩ := hrel
    by_cases hlt : i < segs.length
    · obtain ⟨z, hz1, hz2, hz3⟩ := HX.out.1.file (fun s hs => by have := (Slog.chain_in HX.out.2.1).2 s hs; omega) hlt
      obtain ⟨hn1, hn2⟩ := Slog.chain_at HX.out.2.1 hlt
      have hk1 := HX.out.2.2.1.1
      have hsm := HX.out.2.2.2.1 segs[i] (List.getElem_mem hlt)
      obtain ⟨tb, toff, tc', htv, htc⟩ := hh.text_at (i := i) (by rw [HLL.out]; exact hlt)
      have hdl : d.list[i]'(by rw [HLL.out]; exact hlt) = nameB segs[i].1 := by simp [HX.out.2.2.2.2]
      rw [hdl] at htc
      rw [HLL.out, ← HNL.out] at htv
      injection htv with ht1 ht2 ht3
      subst ht1 ht3
      have hlen : (framesOf segs[i].1 segs[i].2 ++ z).length ≤ 1073741824 := by
        have h1 := HX.out.1.ok
        have h2 : (d.read (nameB segs[i].1)).1.length ≤ 1073741824 := by
          unfold Dk.read
          split
          · simp
          · split
            · simp
            · rename_i x hx; have := Dk.Ok.len h1 hx; simpa using (by omega : x.length ≤ 1073741824)
        rw [hz1] at h2
        exact h2
      have HTK := hid (recsOf_take hlt)
      have HTS := hid (show segs.take (i + 1) = segs.take i ++ [segs[i]] from List.take_succ_eq_append_getElem hlt)
      generalize segs[i] = s at *
      have HNUM := hid (fun w => number_held w s.1 (by omega) (by omega))
      have HRD := hid (fun w1 B1 (g1 : Held w0 w1 (rDisk p d :: B1)) => read_held g1 HX.out.1.ok (nameB s.1) (by rw [Slog.nameB_length]; omega))
      rw [hz1] at HRD
      have HSR := hid (fun w1 v1 B1 (g1 : Held w0 w1 (rBytes v1 (framesOf s.1 s.2 ++ z) :: B1)) => sread_held g1 (first := s.1) (rs := s.2) ⟨by omega, hsm⟩ hz2 (by omega))
      obtain ⟨fl, hfl⟩ : ∃ fl, fl = (framesOf s.1 s.2).length := ⟨_, rfl⟩
      have hzl : i + 1 < segs.length → (framesOf s.1 s.2 ++ z).length = fl := fun h => by rw [hz3 h, List.append_nil, hfl]
      obtain ⟨c, hcz⟩ : ∃ c, c = framesOf s.1 s.2 ++ z := ⟨_, rfl⟩
      rw [← hcz] at HRD HSR hlen hzl
      rw [← hfl] at HSR
      have hfl6 : fl ≤ 1073741824 := by
        rw [hcz, List.length_append, ← hfl] at hlen
        omega
      have HFL := hid (show segRow s = [.int .i64 s.1, .int .i64 fl] by rw [hfl]; rfl)
      have HZL := hid hzl
      have HNR := hid (show ((segs.take i).map segRow).length = i by rw [List.length_map, List.length_take]; omega)
      obtain ⟨rl, hrl⟩ : ∃ rl, rl = (recsOf (segs.take i)).length := ⟨_, rfl⟩
      have HRL := hid hrl.symm
      obtain ⟨nx, hnx⟩ : ∃ nx, nx = nxt k segs i := ⟨_, rfl⟩
      rw [← hnx] at hh
      have hcase : s.1 = nx ∨ (s.1 ≠ nx ∧ i = 0 ∧ nx = 1) := by
        by_cases h0 : i = 0
        · by_cases h1 : s.1 = nx
          · exact .inl h1
          · exact .inr ⟨h1, h0, by rw [hnx]; unfold nxt; rw [if_pos h0]⟩
        · left
          rw [hnx]
          unfold nxt
          rw [if_neg h0, hn1]
      have hb1 := hb hlt
      subst hb1
      have HH := hid hh
      obtain ⟨iS, iz, is, ib, iy⟩ := info_parts Tryz.infoSeg
      have HIs := hid (And.intro iz (And.intro is (And.intro ib iy)))
      obtain ⟨i0, hi0, hz0, hz10, hz20⟩ := info_parts Tryz.infoBytes
      have HI := hid (And.intro hi0 (And.intro hz0 (And.intro hz10 hz20)))
      have hne0 : ((s.1 : Int) == 0) = false := by rw [beq_eq_false_iff_ne]; omega
      have hltn : (i : Int) < (n0 : Int) := by rw [HNL.out]; omega
      have hin : i ≤ 100 := by omega
      have HLT := hid hlt
      have HN1 := hid (And.intro hn1 hrl)
      have hsn : s.1 + s.2.length ≤ 98 := by omega
      have hs1 : 1 ≤ s.1 := by omega
      have hrl98 : rl ≤ 98 := by omega
      clear hz1 hz2 hz3 hn1 hn2 hsm hdl hlen hfl hzl hcz hrl hh hnx iz is ib iy hi0 hz0 hz10 hz20 hb ht2 hlt
      rcases hcase with heq | ⟨hne, rfl, rfl⟩
      · subst heq
        go_wp2_with (first
  | (go_at_call 97; refine (HNUM.out _).mono ?_; rintro e w1 ⟨rfl, m1⟩; have G1 := hid ((HH.out.step m1).pull2); clear m1)
  | (go_at_call 98; refine (HRD.out _ _ G1.out).mono ?_; rintro e w2 ⟨v2, rfl, g2⟩; obtain ⟨A2, c2, rfl, -, -⟩ := Held.form (l1 := []) g2; have G2 := hid g2; clear g2)
  | (go_at_call 99; refine (HSR.out _ _ _ G2.out).mono ?_; rintro e w3 ⟨v3, rfl, g3⟩; obtain ⟨A3, c3, rfl, hc31, hc32⟩ := g3.recs_form; obtain ⟨gs, gr, g4⟩ := g3.pull4.lopen; obtain ⟨sA, sc, rfl, hs1, hs2⟩ := Held.rows_form (l1 := [_]) g4; obtain ⟨rA, rc, rfl, hr1, hr2⟩ := g4.pull2.recs_form; rw [HNR.out] at g4 hs1; rw [HRL.out] at g4 hr1; have b4 := g4.blk0; have e1 : w3.cell? ⟨q, 1, none⟩ = some (.slice sA i sc) := b4.cell rfl; have e2 : w3.cell? ⟨q, 2, none⟩ = some (.slice rA rl rc) := b4.cell rfl; have e3 : w3.cell? ⟨q, 3, none⟩ = some (.int .i64 s.1) := b4.cell rfl; have G4 := hid g4; clear g3 g4 b4)
  | (at_builtin; refine wpList_append_row [] _ rfl _ _ 128 rfl 2 134 iS _ 16 Tryz.underlying128 HIs.out.1 HIs.out.2.1 HIs.out.2.2.1 HIs.out.2.2.2 rfl (by decide) _ _ _ HNR.out rfl (G4.out.pull1.step (by repeat (first | exact Mod.refl _ _ | refine Mod.alloc ?_ _ | refine Mod.drew ?_))) _ _ [.int .i64 s.1, .int .i64 fl] rfl rfl (World.news_of_block (heap_alloc_new w3 _)) (by intro u hu; simp only [List.mem_cons, List.not_mem_nil, or_false] at hu; rcases hu with rfl | rfl <;> rfl) (by omega) (by unfold maxLen; omega) ?c3))
        case c3 =>
          intro A5 c5 w5 q1 q2 g5
          -- [rows, blk, recs, v3, vb, disk, texts, B]
          have b5 := g5.pull1.blk0
          have f5 := b5.frozen 1
          have e5 := b5.cell (i := 1) rfl
          have g6 := (Held.store (l1 := [_]) g5 1 (.slice A5 (i + 1) c5)).pull2
          obtain ⟨bvs, hbl, g7⟩ := g6.recs_open
          -- [own gr, big, rows, blk, v3, vb, disk, texts, B]
          obtain ⟨cvs, hcl, g8⟩ := g7.pull4.recs_open
          -- [own v3, big3, own gr, big, rows, blk, vb, disk, texts, B]
          have HCV := hid (Held.own_rd (l1 := []) g8)
          have HCO := hid (recs_one hcl g8.pull1)
          have HBL := hid hbl
          have HCL := hid hcl
          have g9 := g8.pull3.pull3
          -- [own gr, big, own v3, big3, rows, blk, vb, disk, texts, B]
          have g9 := g8.pull3
          have g10 := g9.pull3
          have G8 := hid g8.pull2
          -- [own gr, own v3, big3, big, rows, blk, vb, disk, texts, B]
          have b8 := Held.blk (l1 := [_, _, _, _, _]) g8
          have e2 : (w5.setCell ⟨q, 1, none⟩ (.slice A5 (i + 1) c5)).cell? ⟨q, 2, none⟩ = some (.slice rA rl rc) := b8.cell rfl
          clear g5 g6 g7 g8 g9 g10 b5 b8 hbl hcl G4
          go_wp2_with (at_builtin; refine wpList_append_held [] _ rfl _ _ 104 rfl 87 i0 (.slice none 0 0) 24 Tryz.underlying104 HI.out.1 HI.out.2.1 HI.out.2.2.1 HI.out.2.2.2 rfl (.slice rA rl rc) bvs rfl G8.out (fun _ => True) (.slice A3 s.2.length c3) cvs rfl HCV.out HCO.out ?d1 ?d2 ?d3)
          case d1 => rw [HBL.out, HCL.out, HRL.out]; omega
          case d2 => rw [HBL.out, HCL.out, HRL.out]; unfold maxLen; omega
          case d3 =>
            intro A7 c7 w7 q3 q4 g7
            have hbl2 : bvs.length = _ := HBL.out
            rw [hbl2, HCL.out, HRL.out] at g7 ⊢
    
            clear hbl2
            have b7 := Held.blk (l1 := [_, _, _, _, _]) g7
            have f7 := b7.frozen 2
            have e7 := b7.cell (i := 2) rfl
            have g8 := Held.store (l1 := [_, _, _, _, _]) g7 2 (.slice A7 (rl + s.2.length) c7)
            have b8 := Held.blk (l1 := [_, _, _, _, _]) g8
            have f8 := b8.frozen 3
            have e8 := b8.cell (i := 3) rfl
            have g9 := Held.store (l1 := [_, _, _, _, _]) g8 3 (.int .i64 ((s.1 : Int) + (s.2.length : Int)))
            have G9 := hid g9
            clear g7 g8 g9 b7 b8 G8 HCV
            go_wp2_with fail
            have g10 := (G9.out : Held w0 _ (rOwn 87 (.slice A7 (rl + s.2.length) c7) (bvs ++ cvs) :: rOwn 87 _ cvs :: rBig bytesLoc (cvs.zip s.2) :: rBig bytesLoc (bvs.zip _) :: rRows 2 134 (.slice A5 (i + 1) c5) _ :: rBlk q 130 #[.pointer (some ⟨p, 0, none⟩), .slice A5 (i + 1) c5, .slice A7 (rl + s.2.length) c7, .int .i64 ((s.1 : Int) + (s.2.length : Int))] :: _)).pull3.pull1
            have g11 := (Held.recs_join HBL.out HCL.out g10).pull2.pull2.pull1
            rw [← HTK.out, show ((s.1 : Int) + (s.2.length : Int)) = ((s.1 + s.2.length : Nat) : Int) by omega] at g11
            have hrw : (List.take i (List.map segRow segs) ++ [segRow s]) = (segs.take (i + 1)).map segRow := by simp [HTS.out]
            rw [← HFL.out, hrw] at g11
            have g12 := (Held.lshut g11).pull1.drop0.pull2
            have hlt := HLT.out
            have hnn := HNL.out
            refine ⟨⟨i + 1, _, by omega, rfl, rfl, fun h => ?_, ?_⟩, ?_⟩
            · rw [HZL.out h]; simp
            · rw [show nxt k segs (i + 1) = s.1 + s.2.length by unfold nxt; rw [if_neg (by omega), HTK.out, List.length_append]; have := HN1.out.1; omega]
              exact g12
            · show n0 - ((i : Int) + 1).toNat < n0 - (i : Int).toNat
              omega
      · have hne2 : ((s.1 : Int) != ((1 : Nat) : Int)) = true := by rw [bne_iff_ne]; omega
        have htc0 : wr.cell? ⟨tb, toff, none⟩ = some (sv (nameB s.1)) := htc
        clear htc
        go_wp2_with (first
  | (go_at_call 97; refine (HNUM.out _).mono ?_; rintro e w1 ⟨rfl, m1⟩; have G1 := hid ((HH.out.step m1).pull2); clear m1)
  | (go_at_call 98; refine (HRD.out _ _ G1.out).mono ?_; rintro e w2 ⟨v2, rfl, g2⟩; obtain ⟨A2, c2, rfl, -, -⟩ := Held.form (l1 := []) g2; have G2 := hid g2; clear g2)
  | (go_at_call 99; refine (HSR.out _ _ _ G2.out).mono ?_; rintro e w3 ⟨v3, rfl, g3⟩; obtain ⟨A3, c3, rfl, hc31, hc32⟩ := g3.recs_form; obtain ⟨gs, gr, g4⟩ := g3.pull4.lopen; obtain ⟨sA, sc, rfl, hs1, hs2⟩ := Held.rows_form (l1 := [_]) g4; obtain ⟨rA, rc, rfl, hr1, hr2⟩ := g4.pull2.recs_form; rw [HNR.out] at g4 hs1; rw [HRL.out] at g4 hr1; have b4 := g4.blk0; have e1 : w3.cell? ⟨q, 1, none⟩ = some (.slice sA 0 sc) := b4.cell rfl; have e2 : w3.cell? ⟨q, 2, none⟩ = some (.slice rA rl rc) := b4.cell rfl; have e3 : w3.cell? ⟨q, 3, none⟩ = some (.int .i64 (1 : Nat)) := b4.cell rfl; have G4 := hid g4; clear g3 g4 b4))
        have g4 := Held.store (l1 := []) G4.out 1 (.slice none 0 0)
        have b4 := G4.out.blk0
        have b5 := Held.blk (l1 := []) g4
        have z1 := b4.frozen 1
        have y2 : (w3.setCell ⟨q, 1, none⟩ (.slice none 0 0)).cell? ⟨q, 2, none⟩ = some (.slice rA rl rc) := b5.cell rfl
        have y2f := b5.frozen 2
        have g5 := ((Held.store (l1 := []) g4 2 (.slice none 0 0) : Held w0 _ (_ :: _ :: _ :: _)).pull1.drop0.pull1.drop0.recs_nil.rows_nil 2 134).pull2
        have x1 : ((w3.setCell ⟨q, 1, none⟩ (.slice none 0 0)).setCell ⟨q, 2, none⟩ (.slice none 0 0)).cell? ⟨q, 1, none⟩ = some (.slice none 0 0) := (Held.blk0 g5).cell rfl
        have GA := hid g5
        have HNR := hid (show ([] : List (List Value)).length = 0 from rfl)
        have HRL := hid (show ([] : List (List UInt8)).length = 0 from rfl)
        have HTK := hid (show recsOf (segs.take (0 + 1)) = [] ++ s.2 from HTK.out)
        have HN1 := hid (show s.1 = k + ([] : List (List UInt8)).length ∧ True from ⟨HN1.out.1, trivial⟩)
        clear g4 g5 b4 b5 G4
        have HSZ := hid (show w3.heap.size = ((w3.setCell ⟨q, 1, none⟩ (.slice none 0 0)).setCell ⟨q, 2, none⟩ (.slice none 0 0)).heap.size by simp [World.setCell])
        refine wp_loop_rounds 1 ?_
        rw [rounds_succ]
        go_wp2_with ((at_builtin; refine wpList_append_row [] _ rfl _ _ 128 rfl 2 134 iS _ 16 Tryz.underlying128 HIs.out.1 HIs.out.2.1 HIs.out.2.2.1 HIs.out.2.2.2 rfl (by decide) _ _ _ HNR.out rfl (GA.out.pull1.step (by repeat (first | exact Mod.refl _ _ | refine Mod.alloc ?_ _ | refine Mod.drew ?_))) _ _ [.int .i64 s.1, .int .i64 fl] rfl rfl (World.news_of_block (by rw [HSZ.out]; exact heap_alloc_new _ _)) (by intro u hu; simp only [List.mem_cons, List.not_mem_nil, or_false] at hu; rcases hu with rfl | rfl <;> rfl) (by omega) (by unfold maxLen; omega) ?c3))
        case c3 =>
          intro A5 c5 w5 q1 q2 g5
          -- [rows, blk, recs, v3, vb, disk, texts, B]
          have b5 := g5.pull1.blk0
          have f5 := b5.frozen 1
          have e5 := b5.cell (i := 1) rfl
          have g6 := (Held.store (l1 := [_]) g5 1 (.slice A5 (0 + 1) c5)).pull2
          obtain ⟨bvs, hbl, g7⟩ := g6.recs_open
          obtain rfl : bvs = [] := List.eq_nil_of_length_eq_zero hbl
          -- [own gr, big, rows, blk, v3, vb, disk, texts, B]
          obtain ⟨cvs, hcl, g8⟩ := g7.pull4.recs_open
          -- [own v3, big3, own gr, big, rows, blk, vb, disk, texts, B]
          have HCV := hid (Held.own_rd (l1 := []) g8)
          have HCO := hid (recs_one hcl g8.pull1)
          have HBL := hid hbl
          have HCL := hid hcl
          have g9 := g8.pull3.pull3
          -- [own gr, big, own v3, big3, rows, blk, vb, disk, texts, B]
          have g9 := g8.pull3
          have g10 := g9.pull3
          have G8 := hid g8.pull2
          -- [own gr, own v3, big3, big, rows, blk, vb, disk, texts, B]
          have b8 := Held.blk (l1 := [_, _, _, _, _]) g8
          have e2 : (w5.setCell ⟨q, 1, none⟩ (.slice A5 (0 + 1) c5)).cell? ⟨q, 2, none⟩ = some (.slice none 0 0) := b8.cell rfl
          clear g5 g6 g7 g8 g9 g10 b5 b8 hbl hcl GA x1 y2 y2f z1 e1 e3
          go_wp2_with (at_builtin; refine wpList_append_held [] _ rfl _ _ 104 rfl 87 i0 (.slice none 0 0) 24 Tryz.underlying104 HI.out.1 HI.out.2.1 HI.out.2.2.1 HI.out.2.2.2 rfl (.slice none 0 0) ([] : List Value) rfl G8.out (fun _ => True) (.slice A3 s.2.length c3) cvs rfl HCV.out HCO.out ?d1 ?d2 ?d3)
          case d1 => rw [HBL.out, HCL.out, HRL.out]; omega
          case d2 => rw [HBL.out, HCL.out, HRL.out]; unfold maxLen; omega
          case d3 =>
            intro A7 c7 w7 q3 q4 g7
            rw [HCL.out] at g7 ⊢
            have b7 := Held.blk (l1 := [_, _, _, _, _]) g7
            have f7 := b7.frozen 2
            have e7 := b7.cell (i := 2) rfl
            have g8 := Held.store (l1 := [_, _, _, _, _]) g7 2 (.slice A7 s.2.length c7)
            have b8 := Held.blk (l1 := [_, _, _, _, _]) g8
            have f8 := b8.frozen 3
            have e8 := b8.cell (i := 3) rfl
            have g9 := Held.store (l1 := [_, _, _, _, _]) g8 3 (.int .i64 ((s.1 : Int) + (s.2.length : Int)))
            have G9 := hid g9
            clear g7 g8 g9 b7 b8 G8 HCV
            go_wp2_with fail
            have g10 := (G9.out : Held w0 _ (rOwn 87 (.slice A7 s.2.length c7) (([] : List Value) ++ cvs) :: rOwn 87 _ cvs :: rBig bytesLoc (cvs.zip s.2) :: rBig bytesLoc _ :: rRows 2 134 (.slice A5 (0 + 1) c5) _ :: rBlk q 130 #[.pointer (some ⟨p, 0, none⟩), .slice A5 (0 + 1) c5, .slice A7 s.2.length c7, .int .i64 ((s.1 : Int) + (s.2.length : Int))] :: _)).pull3.pull1
            have g11 := (Held.recs_join HBL.out HCL.out g10).pull2.pull2.pull1
            rw [← HTK.out, show ((s.1 : Int) + (s.2.length : Int)) = ((s.1 + s.2.length : Nat) : Int) by omega] at g11
            have hrw : [segRow s] = (segs.take (0 + 1)).map segRow := by rw [HTS.out]; rfl
            rw [← HFL.out, hrw] at g11
            have g12 := (Held.lshut g11).pull1.drop0.pull2
            have hlt := HLT.out
            have hnn := HNL.out
            refine ⟨⟨0 + 1, _, by omega, rfl, rfl, fun h => ?_, ?_⟩, ?_⟩
            · rw [HZL.out h]; simp
            · rw [show nxt k segs (0 + 1) = s.1 + s.2.length by unfold nxt; rw [if_neg (by omega), HTK.out, List.length_append]; have := HN1.out.1; omega]
              exact g12
            · show n0 - ((0 : Int) + 1).toNat < n0 - (0 : Int).toNat
              omega
    · have hi2 : i = n0 := by rw [HNL.out]; omega
      subst hi2
      have hX := HX.out
      have hnx : nxt k segs i = n := by
        unfold nxt
        by_cases h0 : i = 0
        · rw [if_pos h0]
          have hnil : segs = [] := List.eq_nil_of_length_eq_zero (by rw [← HNL.out]; exact h0)
          have h1 := hX.2.2.1.2 hnil
          have h2 := hX.2.1
          rw [hnil] at h2
          have h3 : k = n := h2
          omega
        · rw [if_neg h0, List.take_of_length_le (by rw [HNL.out]; exact Nat.le_refl _)]
          exact Slog.chain_count hX.2.1
      rw [hnx, List.take_of_length_le (by rw [HNL.out]; exact Nat.le_refl _)] at hh
      have g1 := hh.drop0
      clear hnx hb hlt hh hi
      rcases List.eq_nil_or_concat segs with hs0 | ⟨ls, s, hs0⟩
      · subst hs0
        have hi0 : i = 0 := HNL.out
        subst hi0
        obtain ⟨sA, sc, rA, rc, h2, h3, h4, h5, c0, c1, c2, c3⟩ := g1.lseen
        simp only [List.length_nil] at c1
        have HD := hid g1.pull1
        have hok := hX.1.ok
        clear g1 hX
        go_wp2_with (first
          | (go_at_call 102; refine (flush_held HD.out hok (by omega)).mono ?_; rintro e w2 ⟨rfl, g2⟩; have G2 := hid g2; clear g2))
        go_ret2
        exact ⟨_, rfl, G2.out.pull1⟩
      · rw [List.concat_eq_append] at hs0
        have hsnum := (Slog.chain_in hX.2.1).2 s (by rw [hs0]; simp)
        have hj : ls.length < segs.length := by rw [hs0]; simp
        obtain ⟨gs, gr, h1⟩ := g1.lopen
        obtain ⟨g, sc, rfl, hs1, s0, s1⟩ := h1.pull1.seg_at hj
        have hlj : segs[ls.length] = s := by subst hs0; simp
        rw [hlj] at s0 s1
        have HG := hid (fun w1 B1 (g1 : Held w0 w1 (rRows 2 134 (.slice (some ⟨g, 0, none⟩) segs.length sc) (segs.map segRow) :: B1)) => seg_cells g1 hj)
        rw [hlj] at HG
        have hil : i = ls.length + 1 := by rw [HNL.out, hs0]; simp
        have hll : segs.length = ls.length + 1 := by rw [hs0]; simp
        obtain ⟨m, hm⟩ : ∃ m, m = ls.length := ⟨_, rfl⟩
        rw [← hm] at s0 s1 HG hll hil
        subst hil
        rw [hll] at h1 hs1 HG
        have c0 : wr.cell? ⟨q, 0, none⟩ = some (.pointer (some ⟨p, 0, none⟩)) := h1.blk0.cell rfl
        have c1 : wr.cell? ⟨q, 1, none⟩ = some (.slice (some ⟨g, 0, none⟩) (m + 1) sc) := h1.blk0.cell rfl
        have hok := hX.1.ok
        have HO := hid (hok.cut (nameB s.1) (s.bytes.length : Int))
        have hcp := Slog.cut_pend (d := d) (nameB s.1) (s.bytes.length : Int)
        have HN := hid (fun w => name_any w s.1 (by omega))
        have HCU := hid (fun w1 B1 (g1 : Held w0 w1 (rDisk p d :: B1)) => cut_held g1 hok (by omega) (nameB s.1) (by rw [Slog.nameB_length]; omega) (s.bytes.length : Int))
        have HOP := hid (show Slog.opened d segs = (d.cut (nameB s.1) (s.bytes.length : Int)).1.flush by unfold Slog.opened; rw [hs0, List.getLast?_append]; rfl)
        have HH := hid h1.pull3
        have k0 : (0 : Int) ≤ (m : Int) := by omega
        have k1 : (m : Int) < (m : Int) + 1 := by omega
        have k2 : IntKind.i64.wrap (m : Int) = (m : Int) := by rw [IntKind.wrap_i64]; omega
        have k3 : IntKind.i64.wrap ((m : Int) + 1 - 1) = (m : Int) := by rw [IntKind.wrap_i64]; omega
        obtain ⟨z, hz⟩ : ∃ z, z = s.bytes.length := ⟨_, rfl⟩
        rw [← hz] at HG HCU HOP HO hcp s1
        obtain ⟨d2, hd2⟩ : ∃ d2, d2 = (d.cut (nameB s.1) (z : Int)).1 := ⟨_, rfl⟩
        rw [← hd2] at HCU HOP HO hcp
        have hcp2 : d2.pending.length ≤ 1000000 := by omega
        clear h1 g1 hX hs0 hsnum hj hlj hll hm hz hd2 hok
        go_wp2_with fail
        go_region_held3 (fun w' => w'.cell? ⟨q, 1, none⟩ = some (.slice (some ⟨g, 0, none⟩) (m + 1) sc) ∧ w'.cell? ⟨g, m * 2, none⟩ = some (.int .i64 s.1) ∧ w'.cell? ⟨g, m * 2 + 1, none⟩ = some (.int .i64 z))
          (first | exact ⟨c1, s0, s1⟩ | exact ⟨e1, u0, u1⟩ | exact ⟨f1, y0, y1⟩)
          (first
            | (go_at_call 72; refine (HN.out _).mono ?_; rintro e w2 ⟨rfl, m2⟩; have g2 := HH.out.drew.step m2; have b2 := g2.pull1.blk0; have e1 : w2.cell? ⟨q, 1, none⟩ = some (.slice (some ⟨g, 0, none⟩) (m + 1) sc) := b2.cell rfl; obtain ⟨u0, u1⟩ := HG.out _ _ g2.pull2; have G2 := hid g2; clear g2 b2 m2)
            | (go_at_call 101; refine (HCU.out _ _ G2.out).mono ?_; rintro e w3 ⟨rfl, g3⟩; have b3 := g3.pull1.blk0; have f1 : w3.cell? ⟨q, 1, none⟩ = some (.slice (some ⟨g, 0, none⟩) (m + 1) sc) := b3.cell rfl; obtain ⟨y0, y1⟩ := HG.out _ _ g3.pull2; have G3 := hid g3; clear g3 b3))
        all_goals
          go_wp2_with (first
            | (go_at_call 102; refine (flush_held G3.out HO.out hcp2).mono ?_; rintro e w4 ⟨rfl, g4⟩; have G4 := hid g4; clear g4))
          go_ret2
          rw [HOP.out]
          exact ⟨_, rfl, Held.lshut (gs := .slice (some ⟨g, 0, none⟩) (m + 1) sc) G4.out.push3⟩
end
end Go.Proofs.YtdbhccehbjhbpaaGreatDoor
