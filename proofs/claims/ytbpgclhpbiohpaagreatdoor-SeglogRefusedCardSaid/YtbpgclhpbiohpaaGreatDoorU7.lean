/- seglog's laws: rows of records, read and cut; SeglogReads. -/
import Derived.Test.YtbpgclhpbiohpaaGreatDoorU6
import Derived.Test.YtbpgclhpbiohpaaGreatDoorQ11
import Derived.OpenShut
namespace Go.Proofs.YtbpgclhpbiohpaaGreatDoor
open Go.RowKit
open Slog (Seg recsOf nameB Lg)
open Disk (Dk)

/-- rows of records, read: the elements' values too. -/
def RdX (w : World) (v : Value) (rs : List (List UInt8)) : Prop :=
  ∃ xs, Rd (fun _ => True) w v xs ∧ xs.length = rs.length ∧ ∀ k (h1 : k < xs.length) (h2 : k < rs.length), Rd (fun _ => True) w xs[k] (bytesV rs[k])
theorem RdX.rdr {w : World} {v : Value} {rs : List (List UInt8)} (h : RdX w v rs) : RdR w v rs := by
  obtain ⟨xs, ⟨A, c, hv, hc, hm, hA⟩, hl, hx⟩ := h
  rw [hl] at hv hc
  refine ⟨A, c, hv, hc, by unfold maxLen at hm; exact hm, fun hne => ?_⟩
  obtain ⟨b, off, e, -, hcell⟩ := hA (by intro e; rw [e] at hl; exact hne (List.eq_nil_of_length_eq_zero hl.symm))
  exact ⟨b, off, e, fun k hk => ⟨xs[k]'(by omega), hcell k _ (List.getElem?_eq_getElem (by omega)), hx k (by omega) hk⟩⟩
theorem Held.rdx {w0 w : World} {B : List Res} {v : Value} {rs : List (List UInt8)} (h : Held w0 w (rRecs v rs :: B)) : RdX w v rs := by
  obtain ⟨bvs, hl, h1⟩ := h.recs_open
  refine ⟨bvs, Held.own_rd (l1 := []) h1, hl, fun k hk h2 => ?_⟩
  have hz : bvs.zip rs = (bvs.zip rs).take k ++ (bvs[k], rs[k]) :: (bvs.zip rs).drop (k + 1) := by
    conv => lhs; rw [← List.take_append_drop k (bvs.zip rs)]
    congr 1
    rw [List.drop_eq_getElem_cons (by simp; omega), List.getElem_zip]
  have h3 := h1.pull1
  rw [hz] at h3
  exact Held.bytes (l1 := [_]) (Held.big_uncons (l1 := [_]) bytesLoc (Held.big_split (l1 := []) bytesLoc h3))
theorem RdX.form {w : World} {v : Value} {rs : List (List UInt8)} (h : RdX w v rs) : ∃ A c, v = .slice A rs.length c := by
  obtain ⟨xs, ⟨A, c, hv, -⟩, hl, -⟩ := h
  exact ⟨A, c, by rw [hv, hl]⟩
theorem RdX.from {w : World} {A : Option Addr} {n c : Nat} {rs : List (List UInt8)} (h : RdX w (.slice A n c) rs) {m : Nat} (hm : m ≤ n) :
    ∃ A' c', (∀ w', (Instr.slice 26 (.slice A n c) (some (.int .i64 m)) none none).run Tryz.prog w' = .ok (.slice A' (n - m) c') w') ∧ RdX w (.slice A' (n - m) c') (rs.drop m) := by
  obtain ⟨xs, hr, hl, hx⟩ := h
  obtain ⟨A', c', h1, h2⟩ := slice_recs hr hm
  refine ⟨A', c', h1, xs.drop m, h2, by simp [hl], fun k k1 k2 => ?_⟩
  rw [List.getElem_drop, List.getElem_drop]
  exact hx _ _ _
set_option maxRecDepth 100000 in
theorem slice_recs2 {S : Nat → Prop} {w : World} {A : Option Addr} {n c : Nat} {xs : List Value} (h : Rd S w (.slice A n c) xs) {lo hi : Nat} (h1 : lo ≤ hi) (h2 : hi ≤ n) :
    ∃ A' c', (∀ w', (Instr.slice 26 (.slice A n c) (some (.int .i64 lo)) (some (.int .i64 hi)) none).run Tryz.prog w' = .ok (.slice A' (hi - lo) c') w') ∧ Rd S w (.slice A' (hi - lo) c') ((xs.take hi).drop lo) := by
  obtain ⟨i0, hi0, -, hz1, -⟩ := info_parts Tryz.infoBytes
  have hc : n ≤ c := by
    obtain ⟨A', c', hv, hc, -⟩ := h
    injection hv with e1 e2 e3
    omega
  refine ⟨_, _, fun w' => ?_, (h.take h2).drop h1⟩
  rw [run_slice_lh w' 26 A n c Tryz.underlying26 .i64 .i64 (lo : Int) (hi : Int) (by omega) (by omega) (by omega)]
  have e : Tryz.prog.elem 26 = 22 := by kernel_rfl
  rw [e]
  have hs : (sizeOf 22).run Tryz.prog w' = .ok 1 w' := by simp [sizeOf, typeInfo, hi0, hz1]
  rw [hs]
  simp [Result.andThen, sliced]
theorem RdX.cut {w : World} {A : Option Addr} {n c : Nat} {rs : List (List UInt8)} (h : RdX w (.slice A n c) rs) {lo hi : Nat} (h1 : lo ≤ hi) (h2 : hi ≤ n) :
    ∃ A' c', (∀ w', (Instr.slice 26 (.slice A n c) (some (.int .i64 lo)) (some (.int .i64 hi)) none).run Tryz.prog w' = .ok (.slice A' (hi - lo) c') w') ∧ RdX w (.slice A' (hi - lo) c') ((rs.take hi).drop lo) := by
  obtain ⟨xs, hr, hl, hx⟩ := h
  obtain ⟨A', c', h3, h4⟩ := slice_recs2 hr h1 h2
  refine ⟨A', c', h3, (xs.take hi).drop lo, h4, by simp [hl], fun k k1 k2 => ?_⟩
  rw [List.getElem_drop, List.getElem_drop, List.getElem_take, List.getElem_take]
  exact hx _ _ _

theorem read_suffix {R : List (List UInt8)} {f0 : Nat} {a b : Int} (h : a ≤ b) : (readFrom f0 R b).length ≤ (readFrom f0 R a).length ∧ (readFrom f0 R a).drop ((readFrom f0 R a).length - (readFrom f0 R b).length) = readFrom f0 R b := by
  unfold readFrom
  rw [List.length_drop, List.length_drop, List.drop_drop]
  refine ⟨by omega, ?_⟩
  by_cases hl : (b - (f0 : Int)).toNat ≤ R.length
  · congr 1
    omega
  · rw [List.drop_eq_nil_of_le (by omega), List.drop_eq_nil_of_le (by omega)]
theorem read_count {R : List (List UInt8)} {f0 n : Nat} {b : Int} (h1 : 1 ≤ f0) (h2 : f0 + R.length = n) : ((readFrom f0 R b).length : Int) = max 0 (min ((n : Int) - (f0 : Int)) ((n : Int) - max b 0)) := by
  unfold readFrom
  rw [List.length_drop]
  omega

/-- the start of a law's play. -/
def ps0 (k : Nat) : PS := ⟨begunDk k, begunLg, [], 0⟩
theorem ps0_played (k : Nat) (hk : k ≤ 16777216) : Played (ps0 k) 0 := Played.begin (Slog.begun_good k hk)

set_option maxRecDepth 100000 in
set_option maxHeartbeats 4000000 in
theorem reads_walk (w : World) (v : Value) (ds : List LDo) (hd : Dos w.heap.size w v ds) (f t : Int) (hf : (Lit.int .i64 f).wf = true) (ht : (Lit.int .i64 t).wf = true) :
    Calls Tryz.prog 6 #[v, .int .i64 f, .int .i64 t] w fun e w' => e = .returned (.bool true) ∧ Below w.heap.size w w' := by
  obtain ⟨A, c, rfl, hc, hm⟩ := hd.form
  have HS := hid (short_any _ w _ ds hd)
  have HD := hid hd
  clear hd
  go_enter Tryz.func6, Tryz.ntmps6
  go_wp2_with fail
  refine HS.out.mono ?_
  rintro e w1 ⟨r, rfl, hr, rfl⟩
  cases r with
  | false =>
    go_wp2_with (first | (go_at_call 20; refine (awake_any _).mono ?_; rintro e w9 ⟨rfl, m9⟩; have HE := hid ((Held.begin w).step m9); clear m9))
    go_ret
    exact ⟨rfl, HE.out.below⟩
  | true =>
    obtain ⟨hl, hb⟩ := hr rfl
    have HL := hid (And.intro hl hb)
    have hp0 := ps0_played 16777216 (by decide)
    have hpd := hp0.play ds (by omega)
    have HPl := hid (fun w1 q p (g1 : Held w w1 (rLog q p (ps0 16777216).l.segs (ps0 16777216).l.next :: rDisk p (ps0 16777216).d :: [])) => play_held g1 hp0 rfl rfl (.slice A ds.length c) ds HD.out HL.out.1 HL.out.2)
    generalize (ps0 16777216).play ds = s at *
    have hfew := hpd.few
    have hnext := hpd.next
    have hlow := hpd.low
    have hg := hpd.good
    have hrl := hg.recs_len
    have hab : min f t ≤ max f t := by omega
    have hsx := read_suffix (R := recsOf s.l.segs) (f0 := s.l.from_) hab
    have hct := read_count (R := recsOf s.l.segs) (b := max f t) hlow.1 hrl
    have HRD := hid (fun x w1 q p B1 (g1 : Held w w1 (rLog q p s.l.segs s.l.next :: B1)) => lread_good g1 hg x)
    have HNX := hid (fun w1 q p B1 (g1 : Held w w1 (rLog q p s.l.segs s.l.next :: B1)) => lnext_held g1)
    have HFI := hid (fun w1 q p B1 (g1 : Held w w1 (rLog q p s.l.segs s.l.next :: B1)) => lfirst_good g1 hg)
    obtain ⟨n, hn⟩ : ∃ n, n = s.l.next := ⟨_, rfl⟩
    obtain ⟨f0, hf0⟩ : ∃ f0, f0 = s.l.from_ := ⟨_, rfl⟩
    rw [← hn] at hct
    rw [← hn] at HNX HRD HFI
    rw [← hf0] at hct hsx HRD HFI
    have hn98 : n ≤ 98 := by omega
    have hf98 : f0 ≤ n := by omega
    generalize hra : readFrom f0 (recsOf s.l.segs) (min f t) = ra at *
    generalize hrb : readFrom f0 (recsOf s.l.segs) (max f t) = rb at *
    have HRA := hid hra
    have HRB := hid hrb
    have HN := hid hn
    obtain ⟨la, hla⟩ : ∃ la, la = ra.length := ⟨_, rfl⟩
    obtain ⟨lb, hlb⟩ : ∃ lb, lb = rb.length := ⟨_, rfl⟩
    rw [← hla, ← hlb] at hsx
    rw [← hlb] at hct
    have hwant : ((lb : Int) == max 0 (min ((n : Int) - (f0 : Int)) (wrap64 ((n : Int) - max f (max t 0))))) = true := by
      have w1 := bounds_i64 hf
      have w2 := bounds_i64 ht
      rw [beq_iff_eq, hct]
      unfold wrap64
      omega
    have HLA := hid hla
    have HLB := hid hlb
    have HSX := hid hsx.2
    have hle := hsx.1
    have hle2 : (lb : Int) ≤ (la : Int) := by omega
    have hsub : IntKind.i64.wrap ((la : Int) - (lb : Int)) = ((la - lb : Nat) : Int) := by
      have h1 : ra.length ≤ (recsOf s.l.segs).length := by rw [← hra]; exact readFrom_len _ _ _
      rw [IntKind.wrap_i64]
      omega
    clear hr hl hb hp0 hpd hfew hnext hlow hg hrl hab hsx hra hrb hn hla hlb hf0 hct
    go_wp2_with (first
      | (go_at_call 22; refine (begun_held (Held.begin w) 16777216 (by decide)).mono ?_; rintro e w2 ⟨p, q, rfl, g2⟩; have GG := hid g2; clear g2)
      | (go_at_call 23; refine (HPl.out _ _ _ GG.out).mono ?_; rintro e w3 ⟨av, rfl, g3⟩; rw [← HN.out] at g3; replace GG := hid g3.pull1; clear g3)
      | (go_at_call 14; refine (HRD.out _ _ _ _ _ GG.out).mono ?_; rintro e w4 ⟨va, rfl, g4⟩; (first | rw [HRA.out] at g4 | rw [HRB.out] at g4); obtain ⟨aA, ac, rfl, -, -⟩ := g4.recs_form; (first | rw [← HLA.out] at g4 ⊢ | rw [← HLB.out] at g4 ⊢); replace GG := hid g4.pull1; clear g4)
      | (go_at_call 16; refine (HNX.out _ _ _ _ GG.out).mono ?_; rintro e w6 ⟨rfl, g6⟩; replace GG := hid g6; (try clear hsl); obtain ⟨xA, xc, hsl, hrx⟩ := (g6.pull2.rdx).from (m := la - lb) (by omega); rw [HSX.out] at hrx; have HEQ := hid (And.intro hrx.rdr g6.pull1.rdx.rdr); clear g6 hrx)
      | (go_at_call 15; refine (HFI.out _ _ _ _ GG.out).mono ?_; rintro e w7 ⟨rfl, g7⟩; replace GG := hid g7; clear g7)
      | (go_at_call 25; refine (equalf_any _ _ _ rb HEQ.out.1 HEQ.out.2).mono ?_; rintro e w8 ⟨rfl, rfl⟩)
      | (go_at_call 20; refine (awake_any _).mono ?_; rintro e w9 ⟨rfl, m9⟩; have HE := hid (GG.out.step m9); clear m9))
    go_ret
    exact ⟨rfl, HE.out.below⟩
end Go.Proofs.YtbpgclhpbiohpaaGreatDoor
