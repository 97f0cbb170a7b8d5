/- seglog's laws: SeglogRefused. -/
import Derived.Test.YtbpgclhpbiohpaaGreatDoorU9
namespace Go.Proofs.YtbpgclhpbiohpaaGreatDoor
open Go.RowKit
open Slog (Seg recsOf nameB Lg)
open Disk (Dk)

theorem u9_mod (k : Int) : ∃ n : Nat, wrap64 ((IntKind.u64.wrap k).tmod 9000) = n ∧ n < 9000 := by
  have h0 : IntKind.u64.wrap k = k % 18446744073709551616 := by unfold IntKind.wrap IntKind.bits IntKind.signed; simp
  refine ⟨(k % 18446744073709551616 % 9000).toNat, ?_, by omega⟩
  rw [h0, Int.tmod_eq_emod_of_nonneg (by omega)]
  unfold wrap64
  omega
theorem u100_mod (k : Int) : ∃ n : Nat, wrap64 ((IntKind.u64.wrap k).tmod 100) = n ∧ n < 100 := by
  have h0 : IntKind.u64.wrap k = k % 18446744073709551616 := by unfold IntKind.wrap IntKind.bits IntKind.signed; simp
  refine ⟨(k % 18446744073709551616 % 100).toNat, ?_, by omega⟩
  rw [h0, Int.tmod_eq_emod_of_nonneg (by omega)]
  unfold wrap64
  omega
/-- behind a sync and a crash all is there. -/
theorem synced_all {s : PS} {m : Nat} (hp : Played s m) {l2 : Lg} {d2 : Dk} (h : Slog.sync s.d s.l = (d2, l2, 0)) {d3 : Dk} {m2 : Lg} (hr : Reopened d3 l2 m2) : m2.next = s.l.next := by
  obtain ⟨e1, e2, e3, e4, e5, e6, e7⟩ := hp.good.synced
  rw [h] at e1 e3 e4 e5 e6 e7
  simp only at e1 e3 e4 e5 e6 e7
  have h1 := hr.least
  have h2 := hr.most
  rw [e5] at h2
  by_cases hs : s.l.segs = []
  · have h3 := hp.good.low.2 hs
    have h4 := hp.good.recs_len
    rw [hs] at h4
    have h5 : (recsOf ([] : List Seg)).length = 0 := rfl
    have h6 := Slog.chain_in hr.chain
    have h7 := hr.low.1
    omega
  · have h3 := e6 hs
    omega

set_option maxRecDepth 100000 in
set_option maxHeartbeats 1000000 in
theorem refused_walk (w : World) (room : Int) (v : Value) (ds : List LDo) (hd : Dos w.heap.size w v ds) (long : Int) :
    Calls Tryz.prog 5 #[.int .i64 room, v, .int .i64 long] w fun e w' => e = .returned (.bool true) ∧ Below w.heap.size w w' := by
  obtain ⟨A, c, rfl, hc, hm⟩ := hd.form
  have HS := hid (short_any _ w _ ds hd)
  have HD := hid hd
  obtain ⟨rn, hrn, hrl⟩ := u9_mod room
  have HRM := hid hrn
  obtain ⟨ln, hln, hll⟩ := u100_mod long
  clear hd hrn
  go_enter Tryz.func5, Tryz.ntmps5
  go_wp2_with fail
  refine HS.out.mono ?_
  rintro e w1 ⟨r, rfl, hr, rfl⟩
  cases r with
  | false =>
    go_wp2_with (first | (go_at_call 20; refine (awake_any _).mono ?_; rintro e w9 ⟨rfl, m9⟩; have HE := hid ((Held.begin w).step m9); clear m9))
    go_ret
    exact ⟨rfl, HE.out.below⟩
  | true =>
    obtain ⟨hl, hb⟩ := hr rfl
    have HL := hid (And.intro hl hb)
    have hp0 := ps0_played rn (by omega)
    have hpd := hp0.play ds (by omega)
    have HPl := hid (fun w1 q p (g1 : Held w w1 (rLog q p (ps0 rn).l.segs (ps0 rn).l.next :: rDisk p (ps0 rn).d :: [])) => play_held g1 hp0 rfl rfl (.slice A ds.length c) ds HD.out HL.out.1 HL.out.2)
    generalize (ps0 rn).play ds = s at *
    have hfew := hpd.few
    have hnext := hpd.next
    have hg := hpd.good
    have hsy := hg.synced
    have h0 := hsy.2.1
    have HSY := hid (fun w1 q p B1 (g1 : Held w w1 (rLog q p s.l.segs s.l.next :: rDisk p s.d :: B1)) => lsync_held g1 hg (by omega))
    have HN1 := hid (fun w1 q p B1 (g1 : Held w w1 (rLog q p s.l.segs s.l.next :: B1)) => lnext_held g1)
    have HR1 := hid (fun w1 q p B1 (g1 : Held w w1 (rLog q p s.l.segs s.l.next :: B1)) => lread_good g1 hg 0)
    have HAP := hid (fun w1 q p v1 r B1 (g1 : Held w w1 (rLog q p s.l.segs s.l.next :: rDisk p s.d :: rBytes v1 r :: B1)) (h1 : 65535 < r.length) (h2 : r.length ≤ 70000) => lappend_long srcR_bytes g1 (by omega) h1 (by omega))
    obtain ⟨sy, hsyn⟩ : ∃ sy, sy = Slog.sync s.d s.l := ⟨_, rfl⟩
    rw [← hsyn] at hsy h0 HSY
    obtain ⟨d2, l2, z2⟩ := sy
    simp only at hsy h0 HSY
    subst h0
    have hg2 := hsy.1
    have hn2 := hsy.2.2.2.2.1
    obtain ⟨m, hre⟩ := hg2.reopen [] 0
    have hall := synced_all hpd hsyn.symm hre
    have HCR := hid (fun w1 p B1 (g1 : Held w w1 (rDisk p d2 :: B1)) => crash_held g1 hg2.ok (by have := hg2.pend_len; omega) [] none 0 (fun _ _ _ => Rd.nil _ _) 0)
    have HOP := hid (fun w1 p B1 (g1 : Held w w1 (rDisk p (d2.crash [] 0) :: B1)) => lopen_held g1 hre (by omega))
    have HN2 := hid (fun w1 q p B1 (g1 : Held w w1 (rLog q p m.segs m.next :: B1)) => lnext_held g1)
    generalize readFrom s.l.from_ (recsOf s.l.segs) 0 = dk at *
    generalize d2.crash [] 0 = d3 at *
    obtain ⟨la, hla⟩ : ∃ la, la = s.all.length := ⟨_, rfl⟩
    have HLA := hid hla
    have hsn : s.l.next = la + 1 := by omega
    have hmn : m.next = la + 1 := by omega
    rw [hmn] at HN2 HOP
    rw [hsn] at HN1 HR1 HSY HAP HPl
    have hla98 : la ≤ 98 := by omega
    simp only [List.length_nil] at HCR
    obtain ⟨i0, hi, hz0, hz1, hz2⟩ := info_parts Tryz.info5
    have HI := hid (And.intro hi (And.intro hz0 (And.intro hz1 hz2)))
    clear hr hl hb hp0 hpd hfew hnext hg hsy hsyn hg2 hn2 hre hall hla hsn hmn hi hz0 hz1 hz2
    go_wp2_with (first
      | (go_at_call 22; rw [HRM.out]; refine (begun_held (Held.begin w) rn (by omega)).mono ?_; rintro e w2 ⟨p, q, rfl, g2⟩; have GG := hid g2; clear g2)
      | (go_at_call 23; refine (HPl.out _ _ _ GG.out).mono ?_; rintro e w3 ⟨av, rfl, g3⟩; obtain ⟨aA, ac, rfl, -, -⟩ := g3.recs_form; rw [← HLA.out] at g3 ⊢; replace GG := hid g3.pull1; clear g3)
      | (go_at_call 14; refine (HR1.out _ _ _ _ GG.out).mono ?_; rintro e w4 ⟨v1, rfl, g4⟩; obtain ⟨rA, rc, rfl, -, -⟩ := g4.recs_form; replace GG := hid g4; clear g4)
      | (refine wpList_make_held rfl _ _ 22 rfl 5 i0 (.int .u8 0) 1 Tryz.underlying22 HI.out.1 HI.out.2.1 HI.out.2.2.1 HI.out.2.2.2 rfl GG.out .i64 .i64 (65536 + ln) (show Value.int .i64 (65536 + (ln : Int)) = _ by congr 1) (show Value.int .i64 (65536 + (ln : Int)) = _ by congr 1) (by omega) (by unfold maxLen; omega) ?c1))
    case c1 =>
      intro w5 mA g5
      obtain ⟨N, hN⟩ : ∃ N, N = 65536 + ln := ⟨_, rfl⟩
      rw [← hN] at g5 ⊢
      have hN1 : 65536 ≤ N := by omega
      have hN2 : N ≤ 66000 := by omega
      obtain ⟨r0, hr0⟩ : ∃ r0 : List UInt8, r0 = List.replicate N 0 := ⟨_, rfl⟩
      have hrN : r0.length = N := by rw [hr0, List.length_replicate]
      have hbv : bytesV r0 = List.replicate N (.int .u8 0) := by rw [hr0]; unfold bytesV; rw [List.map_replicate]; rfl
      rw [← hbv] at g5
      have G5 := hid (show Held w w5 (rLog q p s.l.segs (la + 1) :: rDisk p s.d :: rBytes (.slice mA N N) r0 :: _) from g5.pull4.pull3)
      have HRN := hid hrN
      clear g5 hN hr0 hrN hbv GG
      go_wp2_with (first
        | (go_at_call 10; refine (HAP.out _ _ _ _ r0 _ G5.out (by rw [HRN.out]; omega) (by rw [HRN.out]; omega)).mono ?_; rintro e w6 ⟨rfl, g6⟩; have GG := hid g6; clear g6 G5)
        | (go_at_call 14; refine (HR1.out _ _ _ _ GG.out).mono ?_; rintro e w7 ⟨v2, rfl, g7⟩; have HEQ := hid (And.intro g7.rdr g7.pull4.rdr); obtain ⟨sA, sc, rfl, -, -⟩ := g7.recs_form; replace GG := hid g7.pull1; clear g7 HR1)
        | (go_at_call 25; refine (equalf_any _ _ _ _ HEQ.out.1 HEQ.out.2).mono ?_; rintro e w8 ⟨rfl, rfl⟩)
        | (go_at_call 16; refine (HN1.out _ _ _ _ GG.out).mono ?_; rintro e w8 ⟨rfl, g8⟩; replace GG := hid g8.pull2.pull1; clear g8 HN1)
        | (go_at_call 12; refine (HSY.out _ _ _ _ GG.out).mono ?_; rintro e w8 ⟨rfl, g8⟩; replace GG := hid g8.pull1; clear g8)
        | (go_at_call 24; refine (HCR.out _ _ _ GG.out).mono ?_; rintro e w8 ⟨rfl, g8⟩; replace GG := hid g8; clear g8)
        | (go_at_call 19; refine (HOP.out _ _ _ GG.out).mono ?_; rintro e w8 ⟨q2, rfl, g8⟩; replace GG := hid g8; clear g8)
        | (go_at_call 16; refine (HN2.out _ _ _ _ GG.out).mono ?_; rintro e w8 ⟨rfl, g8⟩; replace GG := hid g8; clear g8)
        | (go_at_call 20; refine (awake_any _).mono ?_; rintro e w9 ⟨rfl, m9⟩; have HE := hid (GG.out.step m9); clear m9))
      go_ret
      exact ⟨rfl, HE.out.below⟩
end Go.Proofs.YtbpgclhpbiohpaaGreatDoor
