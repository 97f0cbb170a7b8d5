/- seglog's laws: SeglogAgain. -/
import Derived.Test.YtbpgclhpbiohpaaGreatDoorU9
namespace Go.Proofs.YtbpgclhpbiohpaaGreatDoor
open Go.RowKit
open Slog (Seg recsOf nameB Lg)
open Disk (Dk)

set_option maxRecDepth 100000 in
set_option maxHeartbeats 1000000 in
theorem again_walk (w : World) (v : Value) (ds : List LDo) (hd : Dos w.heap.size w v ds) (kv : Value) (ks : List Bool) (hk : Rd (· < w.heap.size) w kv (boolsV ks)) (tear : Int) :
    Calls Tryz.prog 8 #[v, kv, .int .i64 tear] w fun e w' => e = .returned (.bool true) ∧ Below w.heap.size w w' := by
  obtain ⟨A, c, rfl, hc, hm⟩ := hd.form
  obtain ⟨kA, kc, rfl, -⟩ := id hk
  rw [boolsV_length] at hk ⊢
  have HK := hid hk
  have HS := hid (short_any _ w _ ds hd)
  have HD := hid hd
  clear hd hk
  go_enter Tryz.func8, Tryz.ntmps8
  go_wp2_with fail
  refine HS.out.mono ?_
  rintro e w1 ⟨r, rfl, hr, rfl⟩
  cases r with
  | false =>
    go_wp2_with (first | (go_at_call 20; refine (awake_any _).mono ?_; rintro e w9 ⟨rfl, m9⟩; have HE := hid ((Held.begin w).step m9); clear m9))
    go_ret
    exact ⟨rfl, HE.out.below⟩
  | true =>
    obtain ⟨hl, hb⟩ := hr rfl
    have HL := hid (And.intro hl hb)
    have hp0 := ps0_played 16777216 (by decide)
    have hpd := hp0.play ds (by omega)
    have HPl := hid (fun w1 q p (g1 : Held w w1 (rLog q p (ps0 16777216).l.segs (ps0 16777216).l.next :: rDisk p (ps0 16777216).d :: [])) => play_held g1 hp0 rfl rfl (.slice A ds.length c) ds HD.out HL.out.1 HL.out.2)
    generalize (ps0 16777216).play ds = s at *
    have hfew := hpd.few
    have hnext := hpd.next
    have hg := hpd.good
    have hpn := hg.pend_len
    obtain ⟨m, hre⟩ := hg.reopen ks tear
    have hg2 := hre.good (by omega)
    have hmo := hre.most
    have hre2 := hre.again (by omega) [] 0
    have hop := opened_pend (s.d.crash ks tear) m.segs
    have HCR := hid (fun w1 p B1 (g1 : Held w w1 (rDisk p s.d :: B1)) => crash_held g1 hg.ok (by omega) ks kA kc (src_arg HK.out) tear)
    have HOP := hid (fun w1 p B1 (g1 : Held w w1 (rDisk p (s.d.crash ks tear) :: B1)) => lopen_held g1 hre (by omega))
    have HPE := hid (fun w1 p B1 (g1 : Held w w1 (rDisk p (Slog.opened (s.d.crash ks tear) m.segs) :: B1)) => pending_held g1)
    rw [hop] at HPE
    have HCR2 := hid (fun w1 p B1 (g1 : Held w w1 (rDisk p (Slog.opened (s.d.crash ks tear) m.segs) :: B1)) => crash_held g1 hg2.ok (by rw [hop]; simp) [] none 0 (fun _ _ _ => Rd.nil _ _) 0)
    have HOP2 := hid (fun w1 p B1 (g1 : Held w w1 (rDisk p ((Slog.opened (s.d.crash ks tear) m.segs).crash [] 0) :: B1)) => lopen_held g1 hre2 (by omega))
    have HF := hid (fun w1 q p B1 (g1 : Held w w1 (rLog q p m.segs m.next :: B1)) => lfirst_good g1 hg2)
    have HN := hid (fun w1 q p B1 (g1 : Held w w1 (rLog q p m.segs m.next :: B1)) => lnext_held g1)
    have HB := hid (fun w1 q p B1 (g1 : Held w w1 (rLog q p m.segs m.next :: B1)) => lbytes_held g1)
    have HR := hid (fun w1 q p B1 (g1 : Held w w1 (rLog q p m.segs m.next :: B1)) => lread_good g1 hg2 0)
    generalize readFrom m.from_ (recsOf m.segs) 0 = dk at *
    generalize (Slog.opened (s.d.crash ks tear) m.segs).crash [] 0 = d3 at *
    generalize Slog.opened (s.d.crash ks tear) m.segs = d2 at *
    generalize s.d.crash ks tear = d1 at *
    simp only [List.length_nil] at HCR2 HPE
    clear hr hl hb hp0 hpd hfew hnext hg hpn hre hg2 hmo hre2 hop
    go_wp2_with (first
      | (go_at_call 22; refine (begun_held (Held.begin w) 16777216 (by decide)).mono ?_; rintro e w2 ⟨p, q, rfl, g2⟩; have GG := hid g2; clear g2)
      | (go_at_call 23; refine (HPl.out _ _ _ GG.out).mono ?_; rintro e w3 ⟨av, rfl, g3⟩; replace GG := hid g3.pull2; clear g3)
      | (go_at_call 24; refine (HCR.out _ _ _ GG.out).mono ?_; rintro e w7 ⟨rfl, g7⟩; replace GG := hid g7; clear g7 HCR)
      | (go_at_call 19; refine (HOP.out _ _ _ GG.out).mono ?_; rintro e w7 ⟨q2, rfl, g7⟩; replace GG := hid g7.pull1; clear g7 HOP)
      | (go_at_call 27; refine (HPE.out _ _ _ GG.out).mono ?_; rintro e w7 ⟨rfl, rfl⟩)
      | (go_at_call 24; refine (HCR2.out _ _ _ GG.out).mono ?_; rintro e w7 ⟨rfl, g7⟩; replace GG := hid g7; clear g7)
      | (go_at_call 19; refine (HOP2.out _ _ _ GG.out).mono ?_; rintro e w7 ⟨q3, rfl, g7⟩; have GA := hid g7.pull2; clear g7 GG HOP2)
      -- GA : [log a, log b, disk, ..]
      | (go_at_call 15; refine (HF.out _ _ _ _ GA.out).mono ?_; rintro e w7 ⟨rfl, g7⟩; have GB := hid g7.pull1; clear g7 GA)
      | (go_at_call 15; refine (HF.out _ _ _ _ GB.out).mono ?_; rintro e w7 ⟨rfl, g7⟩; have GA := hid g7.pull1; clear g7 GB)
      | (go_at_call 16; refine (HN.out _ _ _ _ GA.out).mono ?_; rintro e w7 ⟨rfl, g7⟩; have GB := hid g7.pull1; clear g7 GA)
      | (go_at_call 16; refine (HN.out _ _ _ _ GB.out).mono ?_; rintro e w7 ⟨rfl, g7⟩; have GA := hid g7.pull1; clear g7 GB)
      | (go_at_call 18; refine (HB.out _ _ _ _ GA.out).mono ?_; rintro e w7 ⟨rfl, g7⟩; have GB := hid g7.pull1; clear g7 GA)
      | (go_at_call 18; refine (HB.out _ _ _ _ GB.out).mono ?_; rintro e w7 ⟨rfl, g7⟩; have GA := hid g7.pull1; clear g7 GB)
      | (go_at_call 14; refine (HR.out _ _ _ _ GA.out).mono ?_; rintro e w7 ⟨va, rfl, g7⟩; obtain ⟨aA, ac, rfl, -, -⟩ := g7.recs_form; have GB := hid g7.pull2; clear g7 GA)
      | (go_at_call 14; refine (HR.out _ _ _ _ GB.out).mono ?_; rintro e w7 ⟨vb, rfl, g7⟩; have HEQ := hid (And.intro g7.pull2.rdr g7.rdr); obtain ⟨bA, bc, rfl, -, -⟩ := g7.recs_form; have GC := hid g7; clear g7 GB)
      | (go_at_call 25; refine (equalf_any _ _ _ _ HEQ.out.1 HEQ.out.2).mono ?_; rintro e w8 ⟨rfl, rfl⟩)
      | (go_at_call 20; refine (awake_any _).mono ?_; rintro e w9 ⟨rfl, m9⟩; have HE := hid (GC.out.step m9); clear m9))
    go_ret
    exact ⟨rfl, HE.out.below⟩
end Go.Proofs.YtbpgclhpbiohpaaGreatDoor
