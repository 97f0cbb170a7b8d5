/- seglog's laws: SeglogStays. -/
import Derived.Test.YtbpgclhpbiohpaaGreatDoorU8
namespace Go.Proofs.YtbpgclhpbiohpaaGreatDoor
open Go.RowKit
open Slog (Seg recsOf nameB Lg)
open Disk (Dk)

theorem u20_mod (k : Int) : ∃ n : Nat, wrap64 ((IntKind.u64.wrap k).tmod 1048576) = n ∧ n < 1048576 := by
  have h0 : IntKind.u64.wrap k = k % 18446744073709551616 := by unfold IntKind.wrap IntKind.bits IntKind.signed; simp
  refine ⟨(k % 18446744073709551616 % 1048576).toNat, ?_, by omega⟩
  rw [h0, Int.tmod_eq_emod_of_nonneg (by omega)]
  unfold wrap64
  omega
theorem src_arg {w0 : World} {B : List Res} {v : Value} {xs : List Value} (h : Rd (· < w0.heap.size) w0 v xs) : Src w0 [] B v xs := fun _ _ g => (Held.rd g h).mono (fun _ _ _ => trivial)

set_option maxRecDepth 100000 in
set_option maxHeartbeats 1000000 in
theorem stays_walk (w : World) (room : Int) (v : Value) (ds : List LDo) (hd : Dos w.heap.size w v ds) (kv : Value) (ks : List Bool) (hk : Rd (· < w.heap.size) w kv (boolsV ks)) (tear : Int) :
    Calls Tryz.prog 4 #[.int .i64 room, v, kv, .int .i64 tear] w fun e w' => e = .returned (.bool true) ∧ Below w.heap.size w w' := by
  obtain ⟨A, c, rfl, hc, hm⟩ := hd.form
  obtain ⟨kA, kc, rfl, -⟩ := id hk
  rw [boolsV_length] at hk ⊢
  have HK := hid hk
  have HS := hid (short_any _ w _ ds hd)
  have HD := hid hd
  obtain ⟨rn, hrn, hrl⟩ := u20_mod room
  have HRM := hid hrn
  clear hd hk hrn
  go_enter Tryz.func4, Tryz.ntmps4
  go_wp2_with fail
  refine HS.out.mono ?_
  rintro e w1 ⟨r, rfl, hr, rfl⟩
  cases r with
  | false =>
    go_wp2_with (first | (go_at_call 20; refine (awake_any _).mono ?_; rintro e w9 ⟨rfl, m9⟩; have HE := hid ((Held.begin w).step m9); clear m9))
    go_ret
    exact ⟨rfl, HE.out.below⟩
  | true =>
    obtain ⟨hl, hb⟩ := hr rfl
    have HL := hid (And.intro hl hb)
    have hp0 := ps0_played rn (by omega)
    have hpd := hp0.play ds (by omega)
    have HPl := hid (fun w1 q p (g1 : Held w w1 (rLog q p (ps0 rn).l.segs (ps0 rn).l.next :: rDisk p (ps0 rn).d :: [])) => play_held g1 hp0 rfl rfl (.slice A ds.length c) ds HD.out HL.out.1 HL.out.2)
    generalize (ps0 rn).play ds = s at *
    have hfew := hpd.few
    have hnext := hpd.next
    have hrecs := hpd.recs
    have hlow := hpd.low
    have hmark := hpd.mark
    have hg := hpd.good
    have hpn := hg.pend_len
    obtain ⟨m, hre⟩ := hg.reopen ks tear
    have hg2 := hre.good (by omega)
    have hfm := hre.from_
    have hle := hre.least
    have hmo := hre.most
    have hrc := hre.recs
    have HCR := hid (fun w1 p B1 (g1 : Held w w1 (rDisk p s.d :: B1)) => crash_held g1 hg.ok (by omega) ks kA kc (src_arg HK.out) tear)
    have HF1 := hid (fun w1 q p B1 (g1 : Held w w1 (rLog q p s.l.segs s.l.next :: B1)) => lfirst_good g1 hg)
    have HN1 := hid (fun w1 q p B1 (g1 : Held w w1 (rLog q p s.l.segs s.l.next :: B1)) => lnext_held g1)
    have HOP := hid (fun w1 p B1 (g1 : Held w w1 (rDisk p (s.d.crash ks tear) :: B1)) => lopen_held g1 hre (by omega))
    have HF2 := hid (fun w1 q p B1 (g1 : Held w w1 (rLog q p m.segs m.next :: B1)) => lfirst_good g1 hg2)
    have HN2 := hid (fun w1 q p B1 (g1 : Held w w1 (rLog q p m.segs m.next :: B1)) => lnext_held g1)
    have HR2 := hid (fun w1 q p B1 (g1 : Held w w1 (rLog q p m.segs m.next :: B1)) => lread_good g1 hg2 0)
    obtain ⟨k1, hk1⟩ : ∃ k1, m.from_ = k1 + 1 := ⟨m.from_ - 1, by omega⟩
    obtain ⟨k2, hk2⟩ : ∃ k2, m.next = k2 + 1 := ⟨m.next - 1, by omega⟩
    obtain ⟨la, hla⟩ : ∃ la, la = s.all.length := ⟨_, rfl⟩
    have hrl2 := hg2.recs_len
    have h12 : k1 ≤ k2 := by omega
    have h2l : k2 ≤ la := by omega
    have hrd : readFrom m.from_ (recsOf m.segs) 0 = (s.all.take k2).drop k1 := by
      unfold readFrom
      rw [show ((0 : Int) - (m.from_ : Int)).toNat = 0 by omega, List.drop_zero, hrc, hrecs, ← hfm, hk1, hk2, List.drop_take]
      congr 1
      omega
    rw [hrd] at HR2
    obtain ⟨dk, hdk⟩ : ∃ dk, dk = (s.all.take k2).drop k1 := ⟨_, rfl⟩
    rw [← hdk] at HR2
    have HDK := hid hdk
    rw [← hfm, hk1] at HF1
    rw [hk1] at HF2
    have hsn : s.l.next = la + 1 := by omega
    rw [hsn] at HN1 HF1
    rw [hk2] at HN2 HF2 HR2 HOP
    obtain ⟨sy, hsy⟩ : ∃ sy, sy = s.synced := ⟨_, rfl⟩
    rw [← hsy] at HPl
    rw [hsn] at HPl
    have HLA := hid hla
    have c1 : ¬ k2 + 1 ≤ sy := by omega
    have c2 : ¬ la < k2 := by omega
    have c3 : ¬ k2 < sy := by omega
    have hla98 : la ≤ 98 := by omega
    clear hr hl hb hp0 hpd hfew hnext hrecs hlow hmark hg hpn hre hg2 hfm hle hmo hrc hk1 hk2 hla hrl2 hrd hdk hsn hsy
    go_wp2_with (first
      | (go_at_call 22; rw [HRM.out]; refine (begun_held (Held.begin w) rn (by omega)).mono ?_; rintro e w2 ⟨p, q, rfl, g2⟩; have GG := hid g2; clear g2)
      | (go_at_call 23; refine (HPl.out _ _ _ GG.out).mono ?_; rintro e w3 ⟨av, rfl, g3⟩; obtain ⟨aA, ac, rfl, -, -⟩ := g3.recs_form; rw [← HLA.out] at g3 ⊢; obtain ⟨xA, xc, hsl, HX⟩ := cut_all aA la ac k1 k2 h12 h2l (by obtain ⟨_, _, hv, q1, -⟩ := g3.recs_form; injection hv with _ _ e3; rw [e3, HLA.out]; exact q1); have HX2 := hid HX; replace GG := hid g3.pull1; clear g3 HX)
      | (go_at_call 16; refine (HN1.out _ _ _ _ GG.out).mono ?_; rintro e w7 ⟨rfl, g7⟩; replace GG := hid g7.pull2; clear g7)
      | (go_at_call 24; refine (HCR.out _ _ _ GG.out).mono ?_; rintro e w7 ⟨rfl, g7⟩; replace GG := hid g7.pull1; clear g7)
      | (go_at_call 15; refine (HF1.out _ _ _ _ GG.out).mono ?_; rintro e w7 ⟨rfl, g7⟩; replace GG := hid g7.pull1; clear g7)
      | (go_at_call 19; refine (HOP.out _ _ _ GG.out).mono ?_; rintro e w7 ⟨q2, rfl, g7⟩; replace GG := hid g7; clear g7)
      | (go_at_call 16; refine (HN2.out _ _ _ _ GG.out).mono ?_; rintro e w7 ⟨rfl, g7⟩; (try (have hx2 := HX2.out _ _ g7.pull4.rdx; rw [← HDK.out] at hx2; have HEQ := hid (And.intro g7.pull1.rdr hx2.rdr); clear hx2)); replace GG := hid g7; clear g7)
      | (go_at_call 15; refine (HF2.out _ _ _ _ GG.out).mono ?_; rintro e w7 ⟨rfl, g7⟩; replace GG := hid g7; clear g7)
      | (go_at_call 14; refine (HR2.out _ _ _ _ GG.out).mono ?_; rintro e w7 ⟨v8, rfl, g7⟩; obtain ⟨yA, yc, rfl, -, -⟩ := g7.recs_form; replace GG := hid g7.pull1; clear g7)
      | (go_at_call 25; refine (equalf_any _ _ _ _ HEQ.out.1 HEQ.out.2).mono ?_; rintro e w8 ⟨rfl, rfl⟩)
      | (go_at_call 20; refine (awake_any _).mono ?_; rintro e w9 ⟨rfl, m9⟩; have HE := hid (GG.out.step m9); clear m9))
    go_ret
    exact ⟨rfl, HE.out.below⟩
end Go.Proofs.YtbpgclhpbiohpaaGreatDoor
