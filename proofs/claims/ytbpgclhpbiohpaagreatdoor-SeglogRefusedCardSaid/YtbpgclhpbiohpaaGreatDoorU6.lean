/- seglog's laws: play over Held. -/
import Derived.Test.YtbpgclhpbiohpaaGreatDoorU5
namespace Go.Proofs.YtbpgclhpbiohpaaGreatDoor
open Go.RowKit
open Slog (Seg recsOf nameB Lg)
open Disk (Dk)

theorem kind_eq (k : LDo) : wrap64 ((IntKind.u64.wrap k.op).tmod 6) = (k.kind : Int) := by
  have h0 : IntKind.u64.wrap k.op = k.op % 18446744073709551616 := by unfold IntKind.wrap IntKind.bits IntKind.signed; simp
  rw [h0, Int.tmod_eq_emod_of_nonneg (by omega)]
  unfold wrap64 LDo.kind
  omega
theorem kind_lt (k : LDo) : k.kind < 6 := by unfold LDo.kind; omega

def PlayAt (w0 : World) (B : List Res) (q p : Nat) (s0 : PS) (ds : List LDo) (av zv iv : Value) (wr : World) : Prop :=
  ∃ i : Nat, i ≤ ds.length ∧ iv = .int .i64 i ∧ zv = .int .i64 (s0.play (ds.take i)).synced ∧ Held w0 wr (rRecs av (s0.play (ds.take i)).all :: rLog q p (s0.play (ds.take i)).l.segs (s0.play (ds.take i)).l.next :: rDisk p (s0.play (ds.take i)).d :: B)

set_option maxRecDepth 100000 in
set_option maxHeartbeats 4000000 in
theorem play_held {w0 w : World} {B : List Res} {q p : Nat} {s0 : PS} (h : Held w0 w (rLog q p s0.l.segs s0.l.next :: rDisk p s0.d :: B)) (hp : Played s0 0) (hall : s0.all = []) (hsy : s0.synced = 0) (v : Value) (ds : List LDo) (hd : Dos w0.heap.size w0 v ds) (hl : ds.length ≤ 80) (hb : ∀ d ∈ ds, d.b.length ≤ 131072) :
    Calls Tryz.prog 23 #[.pointer (some ⟨q, 0, none⟩), v] w fun e w' => ∃ av, e = .returned (.tuple #[av, .int .i64 (s0.play ds).synced]) ∧ Held w0 w' (rRecs av (s0.play ds).all :: rLog q p (s0.play ds).l.segs (s0.play ds).l.next :: rDisk p (s0.play ds).d :: B) := by
  obtain ⟨A, c, rfl, hc, hm⟩ := hd.form
  have HD := hid (fun w1 B1 (g1 : Held w0 w1 B1) => hd.keep (w' := w1) (fun b hb _ => g1.mod.block b hb (fun h => h)))
  have HI := hid (show PlayAt w0 B q p s0 ds (.slice none 0 0) (.int .i64 0) (.int .i64 0) w from ⟨0, Nat.zero_le _, rfl, by rw [List.take_zero]; show _ = Value.int .i64 (s0.synced : Nat); rw [hsy]; rfl, by rw [List.take_zero]; show Held w0 w (rRecs _ s0.all :: _); rw [hall]; exact h.recs_nil⟩)
  have HP := hid (fun i (hi : i ≤ ds.length) => hp.play (ds.take i) (by rw [List.length_take]; omega))
  have HB := hid hb
  clear h hp hall hsy hd hb
  obtain ⟨n, hn⟩ : ∃ n, n = ds.length := ⟨_, rfl⟩
  have HN := hid hn
  rw [← hn] at hc hl ⊢
  clear hn
  go_enter Tryz.func23, Tryz.ntmps23
  go_wp2_with fail
  go_loopw [6, 7, 14] (fun av zv iv wr => PlayAt w0 B q p s0 ds av zv iv wr) (fun _ _ iv _ => n - (intOf iv).toNat)
  case atStart => exact HI.out
  case round =>
    clear HI
    obtain ⟨i, hi, rfl, rfl, hh⟩ := hrel
    by_cases hlt : i < ds.length
    · have hpl := HP.out i hi
      obtain ⟨b, off, bA, bc, kA, kc, hA, hbB, c0, c1, c2, c3, c4, hdo⟩ := (HD.out _ _ hh).at hlt
      subst hA
      have hbl := HB.out ds[i] (List.getElem_mem hlt)
      have hkd := kind_eq ds[i]
      have hk6 := kind_lt ds[i]
      have HTS := hid (show s0.play (ds.take (i + 1)) = (s0.play (ds.take i)).step ds[i] by rw [List.take_succ_eq_append_getElem hlt, PS.play_snoc])
      have HLT := hid hlt
      have hltn : (i : Int) < (n : Int) := by rw [HN.out]; omega
      have hi80 : i ≤ 80 := by omega
      obtain ⟨oA, oc, rfl, ho1, ho2⟩ := hh.recs_form
      have hfew := hpl.few
      have hnx := hpl.next
      generalize s0.play (ds.take i) = s at *
      generalize ds[i] = k at *
      rw [List.length_take] at hfew
      have hall80 : s.all.length ≤ 80 := by omega
      have HG := hid hpl.good
      have HW := hid hdo
      obtain ⟨bS, hbS⟩ : ∃ bS : Nat → Prop, bS = (· < w0.heap.size) := ⟨_, rfl⟩
      have HH := hid (show Held w0 _ (rBlk wr.heap.size 96 #[.int .i64 k.op, .slice bA k.b.length bc, .int .i64 k.size, .int .i64 k.n, .slice kA k.keep.length kc] :: _) from hh.block 96 (doCells k bA kA bc kc))
      have HRD := hid (fun w1 B1 (g1 : Held w0 w1 B1) => (hdo.b.keep (w' := w1) (fun b hb _ => (g1.mod.block b hb (fun h => h)).trans (hh.mod.block b hb (fun h => h)).symm)).mono (T := fun _ => True) (fun _ _ _ => trivial))
      obtain ⟨i0, hi0, hz0, hz10, hz20⟩ := info_parts Tryz.infoBytes
      have HIB := hid (And.intro hi0 (And.intro hz0 (And.intro hz10 hz20)))
      clear hi0 hz0 hz10 hz20
      clear hh hpl hdo hlt
      generalize hkk : k.kind = kk at *
      have HKK := hid hkk
      clear hkk hbS
      have h6 : kk = 3 ∨ kk = 5 ∨ kk = 4 ∨ kk = 0 ∨ kk = 1 ∨ kk = 2 := by omega
      clear hk6
      rcases h6 with rfl | rfl | rfl | rfl | rfl | rfl
      · have HST := hid (show s.step k = ⟨(Slog.sync s.d s.l).1, (Slog.sync s.d s.l).2.1, s.all, s.all.length⟩ by unfold PS.step; rw [if_pos (by rw [HKK.out]; decide)])
        have HC := hid (lsync_held HH.out.pull2.pull3.pull1 HG.out (by omega))
        go_wp2_with (first | (go_at_call 12; refine HC.out.mono ?_; rintro e w2 ⟨rfl, g2⟩; have G2 := hid g2.pull2.drop0.pull2; clear g2))
        have hlt := HLT.out
        refine ⟨⟨i + 1, by omega, rfl, ?_, ?_⟩, ?_⟩
        · rw [HTS.out, HST.out]
        · rw [HTS.out, HST.out]; exact G2.out
        · show n - ((i : Int) + 1).toNat < n - (i : Int).toNat; omega
      · have HST := hid (show s.step k = ⟨(Slog.sync s.d s.l).1, (Slog.sync s.d s.l).2.1, s.all, s.all.length⟩ by unfold PS.step; rw [if_pos (by rw [HKK.out]; decide)])
        have HC := hid (lsync_held HH.out.pull2.pull3.pull1 HG.out (by omega))
        go_wp2_with (first | (go_at_call 12; refine HC.out.mono ?_; rintro e w2 ⟨rfl, g2⟩; have G2 := hid g2.pull2.drop0.pull2; clear g2))
        have hlt := HLT.out
        refine ⟨⟨i + 1, by omega, rfl, ?_, ?_⟩, ?_⟩
        · rw [HTS.out, HST.out]
        · rw [HTS.out, HST.out]; exact G2.out
        · show n - ((i : Int) + 1).toNat < n - (i : Int).toNat; omega
      · have HST := hid (show s.step k = ⟨(Slog.trim s.d s.l k.n).1, (Slog.trim s.d s.l k.n).2, s.all, s.synced⟩ by unfold PS.step; rw [if_neg (by rw [HKK.out]; decide), if_pos (by rw [HKK.out])])
        have HC := hid (ltrim_good HH.out.pull2.pull3.pull1 HG.out (by omega) k.n)
        go_wp2_with (first | (go_at_call 13; refine HC.out.mono ?_; rintro e w2 ⟨rfl, g2⟩; have G2 := hid g2.pull2.drop0.pull2; clear g2))
        have hlt := HLT.out
        refine ⟨⟨i + 1, by omega, rfl, ?_, ?_⟩, ?_⟩
        · rw [HTS.out, HST.out]
        · rw [HTS.out, HST.out]; exact G2.out
        · show n - ((i : Int) + 1).toNat < n - (i : Int).toNat; omega
      · have HST := hid (show s.step k = ⟨(Slog.append s.d s.l k.recB).1, (Slog.append s.d s.l k.recB).2.1, if (Slog.append s.d s.l k.recB).2.2.2 = 0 then s.all ++ [k.recB] else s.all, s.synced⟩ by unfold PS.step; rw [if_neg (by rw [HKK.out]; decide), if_neg (by rw [HKK.out]; decide)])
        have HC1 := hid (rec_held HH.out k bA kA bc kc (HRD.out _ _ HH.out) hbl)
        have HRL := hid (LDo.recB_len hbl)
        have HC2 := hid (fun w1 v1 B1 (g1 : Held w0 w1 (rLog q p s.l.segs s.l.next :: rDisk p s.d :: rBytes v1 k.recB :: B1)) => lappend_held srcR_bytes g1 HG.out (by omega) (by have := LDo.recB_len hbl; omega))
        obtain ⟨ap, hap⟩ : ∃ ap, ap = Slog.append s.d s.l k.recB := ⟨_, rfl⟩
        rw [← hap] at HST HC2
        clear hap
        obtain ⟨d2, l2, n2, e2⟩ := ap
        simp only at HST HC2
        obtain ⟨kr, hkr⟩ : ∃ kr, kr = k.recB := ⟨_, rfl⟩
        have HKR := hid hkr
        rw [← hkr] at HST HC1 HC2 HRL
        clear hkr
        have cc1 := (HH.out.blk0)
        by_cases he : e2 = 0
        · subst he
          rw [if_pos rfl] at HST
          go_wp2_with (first
            | (go_at_call 50; refine HC1.out.mono ?_; rintro e w2 ⟨v1, rfl, g2⟩; obtain ⟨A1, k1, rfl, -, -⟩ := Held.form (l1 := []) g2; have G2 := hid g2.pull3.pull4.pull1; clear g2)
            | (go_at_call 10; refine (HC2.out _ _ _ G2.out).mono ?_; rintro e w3 ⟨rfl, g3⟩; have b3 := g3.pull3.blk0; have x0 := b3.cell (i := 0) rfl; have x1 := b3.cell (i := 1) rfl; have x2 := b3.cell (i := 2) rfl; have x3 := b3.cell (i := 3) rfl; have x4 := b3.cell (i := 4) rfl; have HC3 := hid (rec_held g3 k bA kA bc kc (HRD.out _ _ g3) hbl); rw [← HKR.out] at HC3; clear g3 b3)
            | (go_at_call 50; refine HC3.out.mono ?_; rintro e w4 ⟨v2, rfl, g4⟩; obtain ⟨A2, k2, rfl, -, -⟩ := Held.form (l1 := []) g4; obtain ⟨bvs, hbv, g5⟩ := g4.pull5.recs_open; have HBV := hid hbv; have G5 := hid g5; clear g4 g5 hbv)
            | (at_builtin; refine wpList_append_held [] _ rfl _ _ 26 rfl 22 i0 (.slice none 0 0) 24 Tryz.underlying26 HIB.out.1 HIB.out.2.1 HIB.out.2.2.1 HIB.out.2.2.2 rfl (.slice oA s.all.length oc) bvs rfl (G5.out.alloc _) _ (.slice (some ⟨w4.heap.size, 0, none⟩) 1 1) [.slice A2 kr.length k2] rfl (own_built 22 w4 [.slice A2 kr.length k2] (by simp [maxLen])).rd (by simp [Value.oneCell']) ?c1 ?c2 ?c3))
          case c1 => rw [HBV.out, List.length_singleton]; omega
          case c2 => rw [HBV.out, List.length_singleton]; unfold maxLen; omega
          case c3 =>
            intro A7 c7 w5 q1 q2 g6
            have g7 := (Held.recs_snoc HBV.out (by simpa using g6)).pull3.drop0.pull3.drop0
            have HG7 := hid g7
            clear g6 g7
            go_wp2_with fail
            have hlt := HLT.out
            refine ⟨⟨i + 1, by omega, rfl, ?_, ?_⟩, ?_⟩
            · rw [HTS.out, HST.out]
            · rw [HTS.out, HST.out]; exact HG7.out
            · show n - ((i : Int) + 1).toNat < n - (i : Int).toNat; omega
        · have he2 : (e2 == 0) = false := by rw [beq_eq_false_iff_ne]; exact he
          rw [if_neg he] at HST
          go_wp2_with (first
            | (go_at_call 50; refine HC1.out.mono ?_; rintro e w2 ⟨v1, rfl, g2⟩; obtain ⟨A1, k1, rfl, -, -⟩ := Held.form (l1 := []) g2; have G2 := hid g2.pull3.pull4.pull1; clear g2)
            | (go_at_call 10; refine (HC2.out _ _ _ G2.out).mono ?_; rintro e w3 ⟨rfl, g3⟩; have G3 := hid g3; clear g3))
          have hlt := HLT.out
          refine ⟨⟨i + 1, by omega, rfl, ?_, ?_⟩, ?_⟩
          · rw [HTS.out, HST.out]
          · rw [HTS.out, HST.out]; exact G3.out.pull2.drop0.pull2.drop0.pull2
          · show n - ((i : Int) + 1).toNat < n - (i : Int).toNat; omega
      · have HST := hid (show s.step k = ⟨(Slog.append s.d s.l k.recB).1, (Slog.append s.d s.l k.recB).2.1, if (Slog.append s.d s.l k.recB).2.2.2 = 0 then s.all ++ [k.recB] else s.all, s.synced⟩ by unfold PS.step; rw [if_neg (by rw [HKK.out]; decide), if_neg (by rw [HKK.out]; decide)])
        have HC1 := hid (rec_held HH.out k bA kA bc kc (HRD.out _ _ HH.out) hbl)
        have HRL := hid (LDo.recB_len hbl)
        have HC2 := hid (fun w1 v1 B1 (g1 : Held w0 w1 (rLog q p s.l.segs s.l.next :: rDisk p s.d :: rBytes v1 k.recB :: B1)) => lappend_held srcR_bytes g1 HG.out (by omega) (by have := LDo.recB_len hbl; omega))
        obtain ⟨ap, hap⟩ : ∃ ap, ap = Slog.append s.d s.l k.recB := ⟨_, rfl⟩
        rw [← hap] at HST HC2
        clear hap
        obtain ⟨d2, l2, n2, e2⟩ := ap
        simp only at HST HC2
        obtain ⟨kr, hkr⟩ : ∃ kr, kr = k.recB := ⟨_, rfl⟩
        have HKR := hid hkr
        rw [← hkr] at HST HC1 HC2 HRL
        clear hkr
        have cc1 := (HH.out.blk0)
        by_cases he : e2 = 0
        · subst he
          rw [if_pos rfl] at HST
          go_wp2_with (first
            | (go_at_call 50; refine HC1.out.mono ?_; rintro e w2 ⟨v1, rfl, g2⟩; obtain ⟨A1, k1, rfl, -, -⟩ := Held.form (l1 := []) g2; have G2 := hid g2.pull3.pull4.pull1; clear g2)
            | (go_at_call 10; refine (HC2.out _ _ _ G2.out).mono ?_; rintro e w3 ⟨rfl, g3⟩; have b3 := g3.pull3.blk0; have x0 := b3.cell (i := 0) rfl; have x1 := b3.cell (i := 1) rfl; have x2 := b3.cell (i := 2) rfl; have x3 := b3.cell (i := 3) rfl; have x4 := b3.cell (i := 4) rfl; have HC3 := hid (rec_held g3 k bA kA bc kc (HRD.out _ _ g3) hbl); rw [← HKR.out] at HC3; clear g3 b3)
            | (go_at_call 50; refine HC3.out.mono ?_; rintro e w4 ⟨v2, rfl, g4⟩; obtain ⟨A2, k2, rfl, -, -⟩ := Held.form (l1 := []) g4; obtain ⟨bvs, hbv, g5⟩ := g4.pull5.recs_open; have HBV := hid hbv; have G5 := hid g5; clear g4 g5 hbv)
            | (at_builtin; refine wpList_append_held [] _ rfl _ _ 26 rfl 22 i0 (.slice none 0 0) 24 Tryz.underlying26 HIB.out.1 HIB.out.2.1 HIB.out.2.2.1 HIB.out.2.2.2 rfl (.slice oA s.all.length oc) bvs rfl (G5.out.alloc _) _ (.slice (some ⟨w4.heap.size, 0, none⟩) 1 1) [.slice A2 kr.length k2] rfl (own_built 22 w4 [.slice A2 kr.length k2] (by simp [maxLen])).rd (by simp [Value.oneCell']) ?c1 ?c2 ?c3))
          case c1 => rw [HBV.out, List.length_singleton]; omega
          case c2 => rw [HBV.out, List.length_singleton]; unfold maxLen; omega
          case c3 =>
            intro A7 c7 w5 q1 q2 g6
            have g7 := (Held.recs_snoc HBV.out (by simpa using g6)).pull3.drop0.pull3.drop0
            have HG7 := hid g7
            clear g6 g7
            go_wp2_with fail
            have hlt := HLT.out
            refine ⟨⟨i + 1, by omega, rfl, ?_, ?_⟩, ?_⟩
            · rw [HTS.out, HST.out]
            · rw [HTS.out, HST.out]; exact HG7.out
            · show n - ((i : Int) + 1).toNat < n - (i : Int).toNat; omega
        · have he2 : (e2 == 0) = false := by rw [beq_eq_false_iff_ne]; exact he
          rw [if_neg he] at HST
          go_wp2_with (first
            | (go_at_call 50; refine HC1.out.mono ?_; rintro e w2 ⟨v1, rfl, g2⟩; obtain ⟨A1, k1, rfl, -, -⟩ := Held.form (l1 := []) g2; have G2 := hid g2.pull3.pull4.pull1; clear g2)
            | (go_at_call 10; refine (HC2.out _ _ _ G2.out).mono ?_; rintro e w3 ⟨rfl, g3⟩; have G3 := hid g3; clear g3))
          have hlt := HLT.out
          refine ⟨⟨i + 1, by omega, rfl, ?_, ?_⟩, ?_⟩
          · rw [HTS.out, HST.out]
          · rw [HTS.out, HST.out]; exact G3.out.pull2.drop0.pull2.drop0.pull2
          · show n - ((i : Int) + 1).toNat < n - (i : Int).toNat; omega
      · have HST := hid (show s.step k = ⟨(Slog.append s.d s.l k.recB).1, (Slog.append s.d s.l k.recB).2.1, if (Slog.append s.d s.l k.recB).2.2.2 = 0 then s.all ++ [k.recB] else s.all, s.synced⟩ by unfold PS.step; rw [if_neg (by rw [HKK.out]; decide), if_neg (by rw [HKK.out]; decide)])
        have HC1 := hid (rec_held HH.out k bA kA bc kc (HRD.out _ _ HH.out) hbl)
        have HRL := hid (LDo.recB_len hbl)
        have HC2 := hid (fun w1 v1 B1 (g1 : Held w0 w1 (rLog q p s.l.segs s.l.next :: rDisk p s.d :: rBytes v1 k.recB :: B1)) => lappend_held srcR_bytes g1 HG.out (by omega) (by have := LDo.recB_len hbl; omega))
        obtain ⟨ap, hap⟩ : ∃ ap, ap = Slog.append s.d s.l k.recB := ⟨_, rfl⟩
        rw [← hap] at HST HC2
        clear hap
        obtain ⟨d2, l2, n2, e2⟩ := ap
        simp only at HST HC2
        obtain ⟨kr, hkr⟩ : ∃ kr, kr = k.recB := ⟨_, rfl⟩
        have HKR := hid hkr
        rw [← hkr] at HST HC1 HC2 HRL
        clear hkr
        have cc1 := (HH.out.blk0)
        by_cases he : e2 = 0
        · subst he
          rw [if_pos rfl] at HST
          go_wp2_with (first
            | (go_at_call 50; refine HC1.out.mono ?_; rintro e w2 ⟨v1, rfl, g2⟩; obtain ⟨A1, k1, rfl, -, -⟩ := Held.form (l1 := []) g2; have G2 := hid g2.pull3.pull4.pull1; clear g2)
            | (go_at_call 10; refine (HC2.out _ _ _ G2.out).mono ?_; rintro e w3 ⟨rfl, g3⟩; have b3 := g3.pull3.blk0; have x0 := b3.cell (i := 0) rfl; have x1 := b3.cell (i := 1) rfl; have x2 := b3.cell (i := 2) rfl; have x3 := b3.cell (i := 3) rfl; have x4 := b3.cell (i := 4) rfl; have HC3 := hid (rec_held g3 k bA kA bc kc (HRD.out _ _ g3) hbl); rw [← HKR.out] at HC3; clear g3 b3)
            | (go_at_call 50; refine HC3.out.mono ?_; rintro e w4 ⟨v2, rfl, g4⟩; obtain ⟨A2, k2, rfl, -, -⟩ := Held.form (l1 := []) g4; obtain ⟨bvs, hbv, g5⟩ := g4.pull5.recs_open; have HBV := hid hbv; have G5 := hid g5; clear g4 g5 hbv)
            | (at_builtin; refine wpList_append_held [] _ rfl _ _ 26 rfl 22 i0 (.slice none 0 0) 24 Tryz.underlying26 HIB.out.1 HIB.out.2.1 HIB.out.2.2.1 HIB.out.2.2.2 rfl (.slice oA s.all.length oc) bvs rfl (G5.out.alloc _) _ (.slice (some ⟨w4.heap.size, 0, none⟩) 1 1) [.slice A2 kr.length k2] rfl (own_built 22 w4 [.slice A2 kr.length k2] (by simp [maxLen])).rd (by simp [Value.oneCell']) ?c1 ?c2 ?c3))
          case c1 => rw [HBV.out, List.length_singleton]; omega
          case c2 => rw [HBV.out, List.length_singleton]; unfold maxLen; omega
          case c3 =>
            intro A7 c7 w5 q1 q2 g6
            have g7 := (Held.recs_snoc HBV.out (by simpa using g6)).pull3.drop0.pull3.drop0
            have HG7 := hid g7
            clear g6 g7
            go_wp2_with fail
            have hlt := HLT.out
            refine ⟨⟨i + 1, by omega, rfl, ?_, ?_⟩, ?_⟩
            · rw [HTS.out, HST.out]
            · rw [HTS.out, HST.out]; exact HG7.out
            · show n - ((i : Int) + 1).toNat < n - (i : Int).toNat; omega
        · have he2 : (e2 == 0) = false := by rw [beq_eq_false_iff_ne]; exact he
          rw [if_neg he] at HST
          go_wp2_with (first
            | (go_at_call 50; refine HC1.out.mono ?_; rintro e w2 ⟨v1, rfl, g2⟩; obtain ⟨A1, k1, rfl, -, -⟩ := Held.form (l1 := []) g2; have G2 := hid g2.pull3.pull4.pull1; clear g2)
            | (go_at_call 10; refine (HC2.out _ _ _ G2.out).mono ?_; rintro e w3 ⟨rfl, g3⟩; have G3 := hid g3; clear g3))
          have hlt := HLT.out
          refine ⟨⟨i + 1, by omega, rfl, ?_, ?_⟩, ?_⟩
          · rw [HTS.out, HST.out]
          · rw [HTS.out, HST.out]; exact G3.out.pull2.drop0.pull2.drop0.pull2
          · show n - ((i : Int) + 1).toNat < n - (i : Int).toNat; omega
    · have : i = n := by rw [HN.out]; omega
      subst this
      rw [List.take_of_length_le (by rw [← HN.out]; exact Nat.le_refl _)] at hh
      go_wp2_with fail
      go_ret2
      have e0 : List.take i ds = ds := List.take_of_length_le (by rw [← HN.out]; exact Nat.le_refl _)
      refine ⟨_, ?h1, hh⟩
      rw [e0]
      first | done | rfl
end Go.Proofs.YtbpgclhpbiohpaaGreatDoor
