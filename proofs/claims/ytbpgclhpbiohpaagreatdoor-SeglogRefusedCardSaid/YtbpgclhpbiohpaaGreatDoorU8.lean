/- seglog's laws: SeglogTrims. -/
import Derived.Test.YtbpgclhpbiohpaaGreatDoorU7
import Derived.Deep.RegionLaw
namespace Go.Proofs.YtbpgclhpbiohpaaGreatDoor
open Go.RowKit
open Slog (Seg recsOf nameB Lg)
open Disk (Dk)

set_option maxRecDepth 100000 in
theorem from_all (A : Option Addr) (n c m : Nat) (hm : m ≤ n) :
    ∃ A' c', (∀ w', (Instr.slice 26 (.slice A n c) (some (.int .i64 m)) none none).run Tryz.prog w' = .ok (.slice A' (n - m) c') w') ∧ ∀ w1 rs, RdX w1 (.slice A n c) rs → RdX w1 (.slice A' (n - m) c') (rs.drop m) := by
  obtain ⟨i0, hi, -, hz1, -⟩ := info_parts Tryz.infoBytes
  refine ⟨if c = m then A else A.map (·.add m), c - m, fun w' => ?_, ?_⟩
  · rw [run_slice_l w' 26 A n c Tryz.underlying26 .i64 (m : Int) (by omega) (by omega)]
    have e : Tryz.prog.elem 26 = 22 := by kernel_rfl
    rw [e]
    have hs : (sizeOf 22).run Tryz.prog w' = .ok 1 w' := by simp [sizeOf, typeInfo, hi, hz1]
    rw [hs]
    simp [Result.andThen, sliced]
  · rintro w1 rs ⟨xs, hr, hl, hx⟩
    refine ⟨xs.drop m, hr.drop hm, by simp [hl], fun k k1 k2 => ?_⟩
    rw [List.getElem_drop, List.getElem_drop]
    exact hx _ _ _
set_option maxRecDepth 100000 in
theorem cut_all (A : Option Addr) (n c lo hi : Nat) (h1 : lo ≤ hi) (h2 : hi ≤ n) (hc : n ≤ c) :
    ∃ A' c', (∀ w', (Instr.slice 26 (.slice A n c) (some (.int .i64 lo)) (some (.int .i64 hi)) none).run Tryz.prog w' = .ok (.slice A' (hi - lo) c') w') ∧ ∀ w1 rs, RdX w1 (.slice A n c) rs → RdX w1 (.slice A' (hi - lo) c') ((rs.take hi).drop lo) := by
  obtain ⟨i0, hi0, -, hz1, -⟩ := info_parts Tryz.infoBytes
  refine ⟨if c = lo then A else A.map (·.add lo), c - lo, fun w' => ?_, ?_⟩
  · rw [run_slice_lh w' 26 A n c Tryz.underlying26 .i64 .i64 (lo : Int) (hi : Int) (by omega) (by omega) (by omega)]
    have e : Tryz.prog.elem 26 = 22 := by kernel_rfl
    rw [e]
    have hs : (sizeOf 22).run Tryz.prog w' = .ok 1 w' := by simp [sizeOf, typeInfo, hi0, hz1]
    rw [hs]
    simp [Result.andThen, sliced]
  · rintro w1 rs ⟨xs, hr, hl, hx⟩
    refine ⟨(xs.take hi).drop lo, (hr.take h2).drop h1, by simp [hl], fun k k1 k2 => ?_⟩
    rw [List.getElem_drop, List.getElem_drop, List.getElem_take, List.getElem_take]
    exact hx _ _ _

set_option maxRecDepth 100000 in
set_option maxHeartbeats 1000000 in
theorem trims_walk (w : World) (v : Value) (ds : List LDo) (hd : Dos w.heap.size w v ds) (t : Int) :
    Calls Tryz.prog 7 #[v, .int .i64 t] w fun e w' => e = .returned (.bool true) ∧ Below w.heap.size w w' := by
  obtain ⟨A, c, rfl, hc, hm⟩ := hd.form
  have HS := hid (short_any _ w _ ds hd)
  have HD := hid hd
  clear hd
  go_enter Tryz.func7, Tryz.ntmps7
  go_wp2_with fail
  refine HS.out.mono ?_
  rintro e w1 ⟨r, rfl, hr, rfl⟩
  cases r with
  | false =>
    go_wp2_with (first | (go_at_call 20; refine (awake_any _).mono ?_; rintro e w9 ⟨rfl, m9⟩; have HE := hid ((Held.begin w).step m9); clear m9))
    go_ret
    exact ⟨rfl, HE.out.below⟩
  | true =>
    obtain ⟨hl, hb⟩ := hr rfl
    have HL := hid (And.intro hl hb)
    have hp0 := ps0_played 16777216 (by decide)
    have hpd := hp0.play ds (by omega)
    have HPl := hid (fun w1 q p (g1 : Held w w1 (rLog q p (ps0 16777216).l.segs (ps0 16777216).l.next :: rDisk p (ps0 16777216).d :: [])) => play_held g1 hp0 rfl rfl (.slice A ds.length c) ds HD.out HL.out.1 HL.out.2)
    generalize (ps0 16777216).play ds = s at *
    have hfew := hpd.few
    have hnext := hpd.next
    have hrecs := hpd.recs
    have hlow := hpd.low
    have hg := hpd.good
    have hgt := hg.trimmed t
    have HT := hid (fun w1 q p B1 (g1 : Held w w1 (rLog q p s.l.segs s.l.next :: rDisk p s.d :: B1)) => ltrim_good g1 hg (by omega) t)
    have HF1 := hid (fun w1 q p B1 (g1 : Held w w1 (rLog q p s.l.segs s.l.next :: B1)) => lfirst_good g1 hg)
    have HS1 := hid (fun w1 q p B1 (g1 : Held w w1 (rLog q p s.l.segs s.l.next :: B1)) => lsegments_held g1)
    generalize Slog.trim s.d s.l t = dm at *
    obtain ⟨d2, m⟩ := dm
    simp only at hgt HT
    obtain ⟨hg2, htr⟩ := hgt
    have hmn := htr.next
    have hmr := htr.recs
    have hmlow := htr.low
    have hmseg := htr.segs
    have HF2 := hid (fun w1 q p B1 (g1 : Held w w1 (rLog q p m.segs m.next :: B1)) => lfirst_good g1 hg2)
    have HS2 := hid (fun w1 q p B1 (g1 : Held w w1 (rLog q p m.segs m.next :: B1)) => lsegments_held g1)
    have HN2 := hid (fun w1 q p B1 (g1 : Held w w1 (rLog q p m.segs m.next :: B1)) => lnext_held g1)
    have HR2 := hid (fun w1 q p B1 (g1 : Held w w1 (rLog q p m.segs m.next :: B1)) => lread_good g1 hg2 0)
    have hrd : readFrom m.from_ (recsOf m.segs) 0 = s.all.drop (m.from_ - 1) := by
      unfold readFrom
      rw [show ((0 : Int) - (m.from_ : Int)).toNat = 0 by omega, List.drop_zero]
      unfold Slog.Lg.recs at hmr
      rw [hmr, hrecs, List.drop_drop]
      congr 1
      omega
    rw [hrd] at HR2
    have hn1 : m.next = s.all.length + 1 := by omega
    obtain ⟨la, hla⟩ : ∃ la, la = s.all.length := ⟨_, rfl⟩
    rw [← hla] at hn1
    obtain ⟨f0, hf0⟩ : ∃ f0, f0 = s.l.from_ := ⟨_, rfl⟩
    obtain ⟨f1, hf1⟩ : ∃ f1, f1 = m.from_ := ⟨_, rfl⟩
    obtain ⟨ls, hls⟩ : ∃ ls, ls = s.l.segs.length := ⟨_, rfl⟩
    obtain ⟨lm, hlm⟩ : ∃ lm, lm = m.segs.length := ⟨_, rfl⟩
    have HLA := hid hla
    have HF := hid hf1
    rw [← hf0] at HF1 hmlow hlow
    rw [← hf1] at HF2 hmlow HR2
    rw [← hls] at HS1 hmseg
    rw [← hlm] at HS2 hmseg
    have hm2 := hg2.recs_len
    have hlow2 := hg2.low.1
    rw [← hf1] at hm2 hlow2
    have hf1n : f1 ≤ la + 1 := by omega
    have c1 : ¬ f1 < f0 := by omega
    have c2 : decide (max t (f0 : Int) < (f1 : Int)) = false := by rw [decide_eq_false_iff_not]; omega
    have c3 : ¬ ls < lm := by omega
    have c4 : lm ≤ ls := by omega
    have c5 : f0 ≤ f1 := by omega
    obtain ⟨k1, hk1⟩ : ∃ k1, k1 = f1 - 1 := ⟨_, rfl⟩
    rw [← hk1] at HR2
    obtain ⟨dk, hdk⟩ : ∃ dk, dk = s.all.drop k1 := ⟨_, rfl⟩
    rw [← hdk] at HR2
    have HDK := hid hdk
    clear hdk
    have hkf : k1 + 1 = f1 := by omega
    have hsub : IntKind.i64.wrap ((f1 : Int) - 1) = (k1 : Int) := by rw [IntKind.wrap_i64]; omega
    have hk0 : (0 : Int) ≤ (k1 : Int) := by omega
    have hk2 : (k1 : Int) ≤ (la : Int) := by omega
    have hk3 : k1 ≤ la := by omega
    have hseg : (ls = 0 ∧ lm = 0) ∨ (0 < ls ∧ 1 ≤ lm) := by
      by_cases h0 : ls = 0
      · exact .inl ⟨h0, by omega⟩
      · right
        have h1 := hmseg.2 (by intro e; rw [e] at hls; simp at hls; exact h0 hls)
        have h2 := List.length_pos_iff.2 h1
        omega
    have hla98 : la ≤ 98 := by omega
    rw [hn1] at HN2 HF2 HS2 HR2 HT
    clear hr hl hb hp0 hpd hfew hnext hrecs hlow hg hg2 htr hmn hmr hmlow hmseg hrd hm2 hlow2 hla hf0 hf1 hls hlm hk1 hkf
    rcases hseg with ⟨rfl, rfl⟩ | ⟨h0, h1⟩
    · clear c3 c4
      go_wp2_with (first
        | (go_at_call 22; refine (begun_held (Held.begin w) 16777216 (by decide)).mono ?_; rintro e w2 ⟨p, q, rfl, g2⟩; have GG := hid g2; clear g2)
        | (go_at_call 23; refine (HPl.out _ _ _ GG.out).mono ?_; rintro e w3 ⟨av, rfl, g3⟩; obtain ⟨aA, ac, rfl, -, -⟩ := g3.recs_form; rw [← HLA.out] at g3 ⊢; replace GG := hid g3.pull1; clear g3)
        | (go_at_call 15; refine (HF1.out _ _ _ _ GG.out).mono ?_; rintro e w7 ⟨rfl, g7⟩; replace GG := hid g7; clear g7)
        | (go_at_call 17; refine (HS1.out _ _ _ _ GG.out).mono ?_; rintro e w7 ⟨rfl, g7⟩; replace GG := hid g7.pull2.pull1; clear g7)
        | (go_at_call 13; refine (HT.out _ _ _ _ GG.out).mono ?_; rintro e w7 ⟨rfl, g7⟩; replace GG := hid g7; clear g7)
        | (go_at_call 15; refine (HF2.out _ _ _ _ GG.out).mono ?_; rintro e w7 ⟨rfl, g7⟩; replace GG := hid g7; clear g7)
        | (go_at_call 16; refine (HN2.out _ _ _ _ GG.out).mono ?_; rintro e w7 ⟨rfl, g7⟩; replace GG := hid g7; clear g7)
        | (go_at_call 17; refine (HS2.out _ _ _ _ GG.out).mono ?_; rintro e w7 ⟨rfl, g7⟩; replace GG := hid g7; clear g7))
      obtain ⟨xA, xc, hsl, HX⟩ := from_all aA la ac k1 hk3
      have HX2 := hid HX
      clear HX
      go_region_law (first
          | (go_simp; go_at_call 14; refine (HR2.out _ _ _ _ GG.out.drew).mono ?_; rintro e w8 ⟨v8, rfl, g8⟩; have hx2 := HX2.out _ _ g8.pull3.rdx; rw [← HDK.out] at hx2; have HEQ := hid (And.intro g8.rdr hx2.rdr); clear hx2; obtain ⟨yA, yc, rfl, -, -⟩ := g8.recs_form; have G8 := hid g8; clear g8)
          | (go_simp; go_at_call 25; refine (equalf_any _ _ _ _ HEQ.out.1 HEQ.out.2).mono ?_; rintro e w8 ⟨rfl, rfl⟩)
          | (go_simp; go_at_call 20; refine (awake_any _).mono ?_; rintro e w9 ⟨rfl, m9⟩; have HE := hid (G8.out.step m9); clear m9))
      all_goals
        go_wp2_with fail
        go_ret
        exact ⟨rfl, HE.out.below⟩
    · have h2 : ¬ lm < 1 := by omega
      have h3 : (1 : Int) ≤ (lm : Int) := by omega
      go_wp2_with (first
        | (go_at_call 22; refine (begun_held (Held.begin w) 16777216 (by decide)).mono ?_; rintro e w2 ⟨p, q, rfl, g2⟩; have GG := hid g2; clear g2)
        | (go_at_call 23; refine (HPl.out _ _ _ GG.out).mono ?_; rintro e w3 ⟨av, rfl, g3⟩; obtain ⟨aA, ac, rfl, -, -⟩ := g3.recs_form; rw [← HLA.out] at g3 ⊢; replace GG := hid g3.pull1; clear g3)
        | (go_at_call 15; refine (HF1.out _ _ _ _ GG.out).mono ?_; rintro e w7 ⟨rfl, g7⟩; replace GG := hid g7; clear g7)
        | (go_at_call 17; refine (HS1.out _ _ _ _ GG.out).mono ?_; rintro e w7 ⟨rfl, g7⟩; replace GG := hid g7.pull2.pull1; clear g7)
        | (go_at_call 13; refine (HT.out _ _ _ _ GG.out).mono ?_; rintro e w7 ⟨rfl, g7⟩; replace GG := hid g7; clear g7)
        | (go_at_call 15; refine (HF2.out _ _ _ _ GG.out).mono ?_; rintro e w7 ⟨rfl, g7⟩; replace GG := hid g7; clear g7)
        | (go_at_call 16; refine (HN2.out _ _ _ _ GG.out).mono ?_; rintro e w7 ⟨rfl, g7⟩; replace GG := hid g7; clear g7)
        | (go_at_call 17; refine (HS2.out _ _ _ _ GG.out).mono ?_; rintro e w7 ⟨rfl, g7⟩; replace GG := hid g7; clear g7))
      obtain ⟨xA, xc, hsl, HX⟩ := from_all aA la ac k1 hk3
      have HX2 := hid HX
      clear HX
      go_region_law (first
          | (go_simp; go_at_call 14; refine (HR2.out _ _ _ _ GG.out.drew).mono ?_; rintro e w8 ⟨v8, rfl, g8⟩; have hx2 := HX2.out _ _ g8.pull3.rdx; rw [← HDK.out] at hx2; have HEQ := hid (And.intro g8.rdr hx2.rdr); clear hx2; obtain ⟨yA, yc, rfl, -, -⟩ := g8.recs_form; have G8 := hid g8; clear g8)
          | (go_simp; go_at_call 25; refine (equalf_any _ _ _ _ HEQ.out.1 HEQ.out.2).mono ?_; rintro e w8 ⟨rfl, rfl⟩)
          | (go_simp; go_at_call 20; refine (awake_any _).mono ?_; rintro e w9 ⟨rfl, m9⟩; have HE := hid (G8.out.step m9); clear m9))
      all_goals
        go_wp2_with fail
        go_ret
        exact ⟨rfl, HE.out.below⟩
end Go.Proofs.YtbpgclhpbiohpaaGreatDoor
