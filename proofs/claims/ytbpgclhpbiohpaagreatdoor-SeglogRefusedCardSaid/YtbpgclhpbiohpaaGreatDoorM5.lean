/- disk: crash, new, clone. (Several texts in one file, by merge.py.) -/
import Derived.Test.YtbpgclhpbiohpaaGreatDoorM4
import Derived.Shelf.SlMaps.Clone
import Derived.Test.YtbpgclhpbiohpaaGreatDoorM1
import Derived.Maps.Range

/- disk: Crash. -/
namespace Go.Proofs.YtbpgclhpbiohpaaGreatDoor
open Go.RowKit
open Disk

def CrashA (w0 : World) (B : List Res) (p : Nat) (d : Dk) (i : DiskIn) (ps kp : List (Deed × Value)) (vr : Value) (f : Files) (w : World) : Prop :=
  Held w0 w (rBlk p 43 (diskCells d i) :: rBig bytesLoc (ps.map bOf) :: rRows 4 99 i.vp (ps.map rowOf) :: rRows 4 99 vr (kp.map rowOf) :: rFiles i.bl f :: rFiles i.bs d.seen :: rHeld i.bh d.held :: B)
section
variable {w0 w : World} {B : List Res} {p : Nat} {d : Dk} {i : DiskIn} {ps kp : List (Deed × Value)} {vr : Value} {f : Files}
theorem crash_start (h : Held w0 w (rDisk p d :: B)) :
    ∃ bs bl bh vA vc ps, ps.map (·.1) = d.pending ∧ ps.length ≤ vc ∧ vc ≤ 9223372036854775807 ∧ CrashA w0 B p d ⟨bs, bl, bh, .slice vA ps.length vc⟩ ps [] (.slice none 0 0) d.lasting w := by
  obtain ⟨bs, bl, bh, vA, vc, ps, h1, h2, h3, h4⟩ := settle_start h fun _ => true
  refine ⟨bs, bl, bh, vA, vc, ps, h1, h2, h3, ?_⟩
  simpa [SettleAt, CrashA, notOf, lastOf, yesOf] using h4
theorem crash_cells (h : CrashA w0 B p d i ps kp vr f w) : DiskSeen p d w i ∧ ∀ j, w.frozen? ⟨p, j, none⟩ = false := ⟨(Held.blk0 h).disk, fun j => (Held.blk0 h).frozen j⟩
theorem row4 {v : Value} {qs : List (Deed × Value)} (h : Held w0 w (rRows 4 99 v (qs.map rowOf) :: B)) {k : Nat} (hk : k < qs.length) :
    ∃ g c, v = .slice (some ⟨g, 0, none⟩) qs.length c ∧ w.cell? ⟨g, k * 4, none⟩ = some (.int .i64 qs[k].1.kind) ∧ w.cell? ⟨g, k * 4 + 1, none⟩ = some (sv qs[k].1.name) ∧
      w.cell? ⟨g, k * 4 + 2, none⟩ = some (.int .i64 qs[k].1.at_) ∧ w.cell? ⟨g, k * 4 + 3, none⟩ = some qs[k].2 := by
  have hj : (qs.map rowOf)[k]? = some (rowOf qs[k]) := by rw [List.getElem?_map, List.getElem?_eq_getElem hk]; rfl
  obtain ⟨g, c, hv, -, -, hc⟩ := h.row_at hj
  rw [List.length_map] at hv
  exact ⟨g, c, hv, hc 0 _ rfl, hc 1 _ rfl, hc 2 _ rfl, hc 3 _ rfl⟩
theorem crash_row (h : CrashA w0 B p d i ps kp vr f w) {k : Nat} (hk : k < ps.length) :
    ∃ g c bA bc, i.vp = .slice (some ⟨g, 0, none⟩) ps.length c ∧ ps[k].2 = .slice bA ps[k].1.b.length bc ∧ ps[k].1.b.length ≤ bc ∧ bc ≤ 9223372036854775807 ∧ w.cell? ⟨g, k * 4, none⟩ = some (.int .i64 ps[k].1.kind) ∧ w.cell? ⟨g, k * 4 + 1, none⟩ = some (sv ps[k].1.name) ∧
      w.cell? ⟨g, k * 4 + 2, none⟩ = some (.int .i64 ps[k].1.at_) ∧ w.cell? ⟨g, k * 4 + 3, none⟩ = some (.slice bA ps[k].1.b.length bc) := by
  obtain ⟨g, c, hv, c0, c1, c2, c3⟩ := row4 (Held.pull2 h) hk
  obtain ⟨bA, bc, hb, q1, q2⟩ := Held.bytes_form (Held.pull1 h) (List.getElem_mem hk)
  exact ⟨g, c, bA, bc, hv, hb, q1, q2, c0, c1, c2, by rw [← hb]; exact c3⟩
theorem kept_row (hko : KeptOf ps kp) (h : CrashA w0 B p d i ps kp vr f w) {k : Nat} (hk : k < kp.length) :
    ∃ g c bA bc, vr = .slice (some ⟨g, 0, none⟩) kp.length c ∧ kp[k].2 = .slice bA kp[k].1.b.length bc ∧ kp[k].1.b.length ≤ bc ∧ bc ≤ 9223372036854775807 ∧ w.cell? ⟨g, k * 4, none⟩ = some (.int .i64 kp[k].1.kind) ∧ w.cell? ⟨g, k * 4 + 1, none⟩ = some (sv kp[k].1.name) ∧
      w.cell? ⟨g, k * 4 + 2, none⟩ = some (.int .i64 kp[k].1.at_) ∧ w.cell? ⟨g, k * 4 + 3, none⟩ = some (.slice bA kp[k].1.b.length bc) := by
  obtain ⟨g, c, hv, c0, c1, c2, c3⟩ := row4 (Held.pull3 h) hk
  obtain ⟨bA, bc, hb, q1, q2, -⟩ := kept_src hko (List.getElem_mem hk) (Held.pull1 h)
  exact ⟨g, c, bA, bc, hv, hb, q1, q2, c0, c1, c2, by rw [← hb]; exact c3⟩
theorem kept_src' {w0 : World} {B : List Res} {p ab : Nat} {t u : TypeId} {cs ds : Array Value} {x y : Res} {bA : Option Addr} {bc k : Nat} (hko : KeptOf ps kp) (hk : k < kp.length) (hb : kp[k].2 = .slice bA kp[k].1.b.length bc) :
    Src w0 [rBlk ab t cs, rBlk p u ds, rBig bytesLoc (ps.map bOf), x, y] B (.slice bA kp[k].1.b.length bc) (bytesV kp[k].1.b) := by
  intro w' M h
  obtain ⟨_, _, -, -, -, hr⟩ := kept_src hko (List.getElem_mem hk) (Held.pull2 h)
  rw [← hb]
  exact hr
theorem keep_yes {ab : Nat} {t : TypeId} {cs : Array Value} {ks : List Bool} {k : Nat} (hk : k < ps.length) (hb : ks[k]? = some true)
    (h : Held w0 w ([rBlk ab t cs, rBlk p 43 (diskCells d i), rBig bytesLoc (ps.map bOf), rRows 4 99 i.vp (ps.map rowOf)] ++ rRows 4 99 vr ((keepsG (ps.take k) ks).map rowOf ++ [rowOf ps[k]]) :: rFiles i.bl f :: rFiles i.bs d.seen :: rHeld i.bh d.held :: B)) :
    CrashA w0 B p d i ps (keepsG (ps.take (k + 1)) ks) vr f w := by
  unfold CrashA
  rw [keepsG_succ hk, if_pos hb, List.map_append]
  exact Held.drop0 h
theorem keep_no {ks : List Bool} {k : Nat} (hk : k < ps.length) (hb : ks[k]? ≠ some true) (h : CrashA w0 B p d i ps (keepsG (ps.take k) ks) vr f w) : CrashA w0 B p d i ps (keepsG (ps.take (k + 1)) ks) vr f w := by
  rw [keepsG_succ hk, if_neg hb, List.append_nil]
  exact h
theorem crash_does {ab : Nat} {t : TypeId} {cs : Array Value} {k : Nat} (hk : k < kp.length)
    (h : Held w0 w ([rBlk ab t cs, rBlk p 43 (diskCells d i), rBig bytesLoc (ps.map bOf), rRows 4 99 i.vp (ps.map rowOf), rRows 4 99 vr (kp.map rowOf)] ++ rFiles i.bl (Files.does (((kp.take k).map (·.1)).foldl Files.does f) kp[k].1) :: rFiles i.bs d.seen :: rHeld i.bh d.held :: B)) :
    CrashA w0 B p d i ps kp vr (((kp.take (k + 1)).map (·.1)).foldl Files.does f) w := by
  unfold CrashA
  rw [List.take_succ_eq_append_getElem hk, List.map_append, List.foldl_append]
  exact Held.drop0 h
theorem crash_end (h : CrashA w0 B p d i ps kp vr f w) : Held w0 (w.setCell ⟨p, 3, none⟩ (.slice none 0 0)) (rDisk p { d with lasting := f, pending := [] } :: B) := by
  have h1 := Held.store (l1 := []) h 3 (.slice none 0 0)
  have h2 := Held.drop0 (Held.pull1 (Held.drop0 (Held.pull1 (Held.drop0 (Held.pull1 h1)))))
  -- blk, lasting, seen, held
  have h3 := (h2.rows_nil 4 99)
  have h4 := Held.big_nil bytesLoc h3
  have h5 := Held.acts_shut (ps := []) (Held.pull1 h4)
  -- acts, blk, lasting, seen, held
  have h6 := Held.push3 h5
  refine Held.dshut (d := { d with lasting := f, pending := [] }) { i with vp := .slice none 0 0 } ?_
  have e : (diskCells d i).setIfInBounds 3 (.slice none 0 0) = diskCells { d with lasting := f, pending := [] } { i with vp := .slice none 0 0 } := by simp [diskCells]
  rw [← e]
  exact h6.perm (.cons _ (.swap _ _ _))
/-- the last one is cut. -/
theorem crash_cut {g c nr : Nat} {init : List (Deed × Value)} {q : Deed × Value} {bA : Option Addr} {bc m : Nat} (hn : init.length + 1 = nr) (hb : q.2 = .slice bA q.1.b.length bc) (h : CrashA w0 B p d i ps (init ++ [q]) (.slice (some ⟨g, 0, none⟩) nr c) f w) :
    CrashA w0 B p d i ps (init ++ [cutPair q m]) (.slice (some ⟨g, 0, none⟩) nr c) f (w.setCell ⟨g, init.length * 4 + 3, none⟩ (.slice bA m bc)) ∧ w.frozen? ⟨g, init.length * 4 + 3, none⟩ = false := by
  have hj : ((init ++ [q]).map rowOf)[init.length]? = some (rowOf q) := by simp
  obtain ⟨h1, h2⟩ := Held.row_store (by simpa using hn) (Held.pull3 h) hj (m := 3) (by decide) (.slice bA m bc)
  refine ⟨?_, h2⟩
  have e : ((init ++ [q]).map rowOf).set init.length ((rowOf q).set 3 (.slice bA m bc)) = (init ++ [cutPair q m]).map rowOf := by
    rw [List.map_append, List.set_append_right _ _ (by simp)]
    simp [rowOf, actRow, cutPair, hb]
  rw [e] at h1
  exact Held.push3 h1
end

theorem slice_take : True := trivial

set_option maxRecDepth 100000 in
set_option maxHeartbeats 4000000 in
theorem crash_held {w0 w : World} {B : List Res} {p : Nat} {d : Dk} (h : Held w0 w (rDisk p d :: B)) (hok : d.Ok) (hpl : d.pending.length ≤ 1000000) (ks : List Bool) (kA : Option Addr) (kc : Nat)
    (hks : Src w0 [] B (.slice kA ks.length kc) (boolsV ks)) (tear : Int) :
    Calls Tryz.prog 24 #[.pointer (some ⟨p, 0, none⟩), .slice kA ks.length kc, .int .i64 tear] w fun e w' => e = .returned (.int .i64 0) ∧ Held w0 w' (rDisk p (d.crash ks tear) :: B) := by
  obtain ⟨kc1, kc2⟩ : ks.length ≤ kc ∧ kc ≤ 9223372036854775807 := by
    obtain ⟨A, c, hv, h1, h2, -⟩ := hks w [rDisk p d] h
    injection hv with _ _ h3
    subst h3
    unfold boolsV at h1
    rw [List.length_map] at h1
    unfold maxLen at h2
    exact ⟨h1, h2⟩
  obtain ⟨bs, bl, bh, vA, vc, ps, hps, q1, q2, h0⟩ := crash_start h
  have hpsl : ps.length ≤ 1000000 := by rw [← hps] at hpl; simpa using hpl
  obtain ⟨⟨c0, c1, c2, c3, c4⟩, hfz⟩ := crash_cells h0
  have HM := hid (dmade_any w p (some bs) c1)
  have H0 := hid h0
  have HK := hid (And.intro hok (And.intro hps hks))
  clear h h0 hok hps hpl hks
  go_enter Tryz.func24, Tryz.ntmps24
  go_wp2_with (first
    | (go_at_call 51; refine HM.out.mono ?_; rintro e w' ⟨rfl, rfl⟩))
  clear c0 c1 c2 c3 c4 hfz
  go_loopw [7, 22] (fun vr iv wr => ∃ k : Nat, k ≤ ps.length ∧ iv = .int .i64 k ∧ CrashA w0 B p d ⟨bs, bl, bh, .slice vA ps.length vc⟩ ps (keepsG (ps.take k) ks) vr d.lasting wr) (fun _ iv _ => ps.length - (intOf iv).toNat)
  case atStart => exact ⟨0, Nat.zero_le _, rfl, by have := H0.out; rw [List.take_zero]; cases ks <;> exact this⟩
  case round =>
    obtain ⟨k, hk, rfl, hh⟩ := hrel
    by_cases hlt : k < ps.length
    · obtain ⟨g, c, bA, bc, hvp, hbv, b1, b2, d0, d1, d2, d3⟩ := crash_row hh hlt
      injection hvp with hvp _ hvc
      subst hvp hvc
      have HY := hid (fun (w : World) (t : TypeId) (cs : Array Value) (i : DiskIn) (ab : Nat) (vr : Value) hq hx => keep_yes (w0 := w0) (w := w) (B := B) (p := p) (ab := ab) (t := t) (cs := cs) (d := d) (i := i) (ps := ps) (vr := vr) (f := d.lasting) (ks := ks) hlt hq hx)
      have HN := hid (fun hq => keep_no (ks := ks) hlt hq hh)
      have hrw : rowOf ps[k] = [.int .i64 ps[k].1.kind, .string ⟨ps[k].1.name.toArray⟩, .int .i64 ps[k].1.at_, .slice bA ps[k].1.b.length bc] := by unfold rowOf actRow sv; rw [hbv]
      have HW := hid hrw
      obtain ⟨a, ha⟩ : ∃ a, a = ps[k].1 := ⟨_, rfl⟩
      have HV := hid ha
      rw [← ha] at d0 d1 d2 d3 HW b1
      have hg0 := (hh.block 99 #[.int .i64 a.kind, .string ⟨a.name.toArray⟩, .int .i64 a.at_, .slice bA a.b.length bc])
      have HG := hid hg0
      have hle : (keepsG (ps.take k) ks).length ≤ 1000000 := by
        have := keepsG_len (ps.take k) ks
        rw [List.length_take] at this
        omega
      obtain ⟨rA, rc, hvr, r1, r2⟩ := Held.rows_form (l1 := [_, _, _]) hh
      rw [List.length_map] at hvr r1
      subst hvr
      have hkr := HK.out.2.2 _ [_, _, _, _, _, _, _, _] hg0
      clear ha hrw hbv
      unfold sv at d1
      generalize hlr : (keepsG (ps.take k) ks).length = lr at *
      have HLR := hid hlr
      cases hb : ks[k]? with
      | none =>
        have hkk : ks.length ≤ k := by rwa [List.getElem?_eq_none_iff] at hb
        have HX := hid ((HN.out (by rw [hb]; simp)).step ((Mod.refl _ _).alloc (.cells #[.int .i64 a.kind, .string ⟨a.name.toArray⟩, .int .i64 a.at_, .slice bA a.b.length bc] 99)))
        clear hh hg0 hlr hb hkr
        go_wp2_with fail
        exact ⟨⟨k + 1, by omega, by simp, HX.out⟩, by show ps.length - ((k : Int) + 1).toNat < ps.length - (k : Int).toNat; omega⟩
      | some bb =>
        have hkk : k < ks.length := (List.getElem?_eq_some_iff.1 hb).1
        obtain ⟨kg, koff, rfl, hcb⟩ := rd_bool hkr hb
        cases bb with
        | false =>
          have HX := hid ((HN.out (by rw [hb]; simp)).step ((Mod.refl _ _).alloc (.cells #[.int .i64 a.kind, .string ⟨a.name.toArray⟩, .int .i64 a.at_, .slice bA a.b.length bc] 99)))
          clear hh hg0 hlr hb hkr
          go_wp2_with fail
          exact ⟨⟨k + 1, by omega, by simp, HX.out⟩, by show ps.length - ((k : Int) + 1).toNat < ps.length - (k : Int).toNat; omega⟩
        | true =>
          obtain ⟨iA, iz, is, ib, iy⟩ := info_parts Tryz.infoAct
          have HI := hid (And.intro iz (And.intro is (And.intro ib iy)))
          have HB := hid hb
          have HNB := hid (show ((wr.alloc (.cells #[.int .i64 a.kind, .string ⟨a.name.toArray⟩, .int .i64 a.at_, .slice bA a.b.length bc] 99)).alloc (.cells #[.int .i64 a.kind, .string ⟨a.name.toArray⟩, .int .i64 a.at_, .slice bA a.b.length bc] 99)).heap[wr.heap.size + 1]? = some (.cells #[.int .i64 a.kind, .string ⟨a.name.toArray⟩, .int .i64 a.at_, .slice bA a.b.length bc] 99) by have := heap_alloc_new (wr.alloc (.cells #[.int .i64 a.kind, .string ⟨a.name.toArray⟩, .int .i64 a.at_, .slice bA a.b.length bc] 99)) (.cells #[.int .i64 a.kind, .string ⟨a.name.toArray⟩, .int .i64 a.at_, .slice bA a.b.length bc] 99); rwa [World.size_alloc] at this)
          clear iz is ib iy hh hg0 hlr hb hkr
          go_wp2_with (at_builtin; refine wpList_append_row [rBlk wr.heap.size 99 #[.int .i64 a.kind, .string ⟨a.name.toArray⟩, .int .i64 a.at_, .slice bA a.b.length bc], rBlk p 43 _, rBig bytesLoc _, rRows 4 99 _ _] _ rfl _ _ 40 rfl 4 99 iA _ 56 Tryz.underlying40 HI.out.1 HI.out.2.1 HI.out.2.2.1 HI.out.2.2.2 rfl (by decide) (.slice rA lr rc) ((keepsG (ps.take k) ks).map rowOf) lr (by rw [List.length_map]; exact HLR.out) rfl (HG.out.step ((Mod.refl _ _).alloc _)) _ _ [.int .i64 a.kind, .string ⟨a.name.toArray⟩, .int .i64 a.at_, .slice bA a.b.length bc] rfl rfl (World.news_of_block HNB.out) (by intro u hu; simp only [List.mem_cons, List.not_mem_nil, or_false] at hu; rcases hu with rfl | rfl | rfl | rfl <;> rfl) (by omega) (by unfold maxLen; omega) ?c8)
          case c8 =>
            intro A' c' w2 p1 p2 g2
            have G2 := hid g2
            clear g2
            go_wp2_with fail
            exact ⟨⟨k + 1, by omega, by simp, HY.out _ _ _ _ _ _ HB.out (by rw [HW.out]; exact G2.out)⟩, by show ps.length - ((k : Int) + 1).toNat < ps.length - (k : Int).toNat; omega⟩
    · obtain ⟨kp0, hkp0⟩ : ∃ kp0, kp0 = keepsG ps ks := ⟨_, rfl⟩
      have hke : ps.take k = ps := List.take_of_length_le (by omega)
      rw [hke, ← hkp0] at hh
      have hko : KeptOf ps kp0 := by rw [hkp0]; exact kept_all ks (Held.pull1 hh)
      have hmap : kp0.map (·.1) = keeps d.pending ks := by rw [hkp0, keepsG_map, ← HK.out.2.1, keeps_eq]
      have hkpl : kp0.length ≤ 1000000 := by have := keepsG_len ps ks; rw [← hkp0] at this; omega
      obtain ⟨rA, rc, hvr, r1, r2⟩ := Held.rows_form (l1 := [_, _, _]) hh
      rw [List.length_map] at hvr r1
      subst hvr
      clear hkp0 hke
      rcases List.eq_nil_or_concat kp0 with rfl | ⟨init, q, rfl⟩
      · have HKO := hid hko
        have HT := hid (show ([] : List (Deed × Value)).map (·.1) = torn (keeps d.pending ks) tear by rw [← hmap]; rfl)
        have H5 := hid hh
        have HLN := hid (show ([] : List (Deed × Value)).length = 0 from rfl)
        clear hko hmap hh
        simp only [List.length_nil] at r1 hkpl H5 ⊢
        generalize ([] : List (Deed × Value)) = kp at *
        obtain ⟨wo, rfl⟩ : ∃ wo : World, wo = wr := ⟨_, rfl⟩
        go_wp2_with fail
        go_loopw [76] (fun iv wr => ∃ k : Nat, k ≤ 0 ∧ iv = .int .i64 k ∧ CrashA w0 B p d ⟨bs, bl, bh, .slice vA ps.length vc⟩ ps kp (.slice rA 0 rc) (((kp.take k).map (·.1)).foldl Files.does d.lasting) wr) (fun iv _ => 0 - (intOf iv).toNat)
        case atStart => exact ⟨0, Nat.zero_le _, rfl, by rw [List.take_zero]; exact H5.out⟩
        case round =>
          obtain ⟨k2, hk2, rfl, hh⟩ := hrel
          clear H5
          by_cases hlt2 : k2 < 0
          · exact absurd hlt2 (by omega)
          · obtain ⟨⟨c0, c1, c2, c3, c4⟩, hfz⟩ := crash_cells hh
            have hfull : kp.take k2 = kp := List.take_of_length_le (by rw [HLN.out]; omega)
            rw [hfull, HT.out] at hh
            have HE := hid (crash_end hh)
            have CR := hid (rest_held HE.out (dones_ok _ HK.out.1.lastOk) (fun n x hx => by
              have h1 := dones_le (HK.out.1.kept ks tear) HK.out.1.lastLe n x hx
              have := may_len h1.1
              have := HK.out.1.hold_room n
              have := HK.out.1.room
              exact ⟨by omega, by omega⟩))
            clear hh hfull HE
            go_wp2_with fail
            refine CR.out.mono ?_
            rintro e w7 ⟨rfl, g7⟩
            have G7 := hid g7
            clear g7
            go_wp2_with fail
            go_ret
            exact ⟨rfl, G7.out⟩
      · rw [List.concat_eq_append] at *
        obtain ⟨n, hn⟩ : ∃ n, n = init.length := ⟨_, rfl⟩
        have hlen : (init ++ [q]).length = n + 1 := by simp [hn]
        rw [hlen] at r1 hkpl hh ⊢
        obtain ⟨g, c, bA0, bc0, hvr, hbv, b1, b2, d0, d1, d2, d3⟩ := kept_row hko hh (k := n) (by omega)
        have hq : (init ++ [q])[n]'(by omega) = q := by subst hn; simp
        rw [hlen] at hvr
        injection hvr with hvr _ hvc
        subst hvr hvc
        rw [hq] at hbv b1 d0 d1 d2 d3
        clear hq d1 d2
        by_cases hk0 : q.1.kind = 0
        · have d0' : wr.cell? ⟨g, n * 4, none⟩ = some (.int .i64 0) := by rw [d0, hk0]; rfl
          clear d0 hlen
          by_cases ht0 : tear < 0
          · have HKO := hid (kept_cut hko (m := q.1.b.length) (by omega))
            have HT := hid (show (init ++ [cutPair q (q.1.b.length)]).map (·.1) = torn (keeps d.pending ks) tear by
              rw [← hmap, List.map_append, List.map_append]
              show _ = torn (init.map (·.1) ++ [q.1]) tear
              rw [torn_snoc, if_pos hk0, show leftOver q.1.b.length tear = q.1.b.length by unfold leftOver; omega]
              rfl)
            obtain ⟨hcut, hfz2⟩ := crash_cut (m := q.1.b.length) (nr := n + 1) (by omega) hbv hh
            rw [← hn] at hcut hfz2
            have H5 := hid hcut
            have HLN := hid (show (init ++ [cutPair q (q.1.b.length)]).length = n + 1 by simp [hn])
            clear hko hmap hh hcut hbv hn
            generalize init ++ [cutPair q (q.1.b.length)] = kp at *
            go_wp2_with fail
            generalize wr.setCell ⟨g, n * 4 + 3, none⟩ _ = wr2 at *
            obtain ⟨wo, rfl⟩ : ∃ wo : World, wo = wr2 := ⟨_, rfl⟩
            go_wp2_with fail
            go_loopw [76] (fun iv wr => ∃ k : Nat, k ≤ (n + 1) ∧ iv = .int .i64 k ∧ CrashA w0 B p d ⟨bs, bl, bh, .slice vA ps.length vc⟩ ps kp (.slice (some ⟨g, 0, none⟩) (n + 1) rc) (((kp.take k).map (·.1)).foldl Files.does d.lasting) wr) (fun iv _ => (n + 1) - (intOf iv).toNat)
            case atStart => exact ⟨0, Nat.zero_le _, rfl, by rw [List.take_zero]; exact H5.out⟩
            case round =>
              obtain ⟨k2, hk2, rfl, hh⟩ := hrel
              clear H5
              by_cases hlt2 : k2 < (n + 1)
              · have hlt3 : k2 < kp.length := by rw [HLN.out]; exact hlt2
                obtain ⟨g2, cc2, bA, bc, hvr2, hbv, b1, b2, d0, d1, d2, d3⟩ := kept_row HKO.out hh hlt3
                have hra : (some ⟨g, 0, none⟩ : Option Addr) = some ⟨g2, 0, none⟩ := by injection hvr2
                have hmem : kp[k2].1 ∈ torn (keeps d.pending ks) tear := by rw [← HT.out]; exact List.mem_map_of_mem (List.getElem_mem hlt3)
                obtain ⟨e1, e2', e3'⟩ := HK.out.1.kept ks tear _ hmem
                have e2 : kp[k2].1.name.length ≤ 9223372036854775807 := by have := may_len e2'; omega
                have e3 : kp[k2].1.at_ + kp[k2].1.b.length ≤ 16777216 := by have := HK.out.1.hold_room kp[k2].1.name; have := HK.out.1.room; omega
                have HS := hid (fun (B : List Res) (p ab : Nat) (t u : TypeId) (cs ds : Array Value) (x y : Res) => kept_src' (w0 := w0) (B := B) (p := p) (ab := ab) (t := t) (u := u) (cs := cs) (ds := ds) (x := x) (y := y) HKO.out hlt3 hbv)
                have HD := hid (fun (w : World) (t : TypeId) (cs : Array Value) (i : DiskIn) (ab : Nat) (vr : Value) hx => crash_does (w0 := w0) (w := w) (B := B) (p := p) (ab := ab) (t := t) (cs := cs) (d := d) (i := i) (ps := ps) (kp := kp) (vr := vr) (f := d.lasting) hlt3 hx)
                have HF := hid (fun (n x : Bytes) hx => dones_le (l := (kp.take k2).map (·.1)) (f := d.lasting) (g := d.held) (fun a ha => HK.out.1.kept ks tear a (by rw [← HT.out]; obtain ⟨y, hy, rfl⟩ := List.mem_map.1 ha; exact List.mem_map.2 ⟨y, (List.take_subset _ _) hy, rfl⟩)) HK.out.1.lastLe n x hx)
                obtain ⟨a, ha⟩ : ∃ a, a = kp[k2].1 := ⟨_, rfl⟩
                have HV := hid ha
                rw [← ha] at d0 d1 d2 d3 e1 e2 e3 HS b1
                have hg0 := (hh.block 99 #[.int .i64 a.kind, .string ⟨a.name.toArray⟩, .int .i64 a.at_, .slice bA a.b.length bc])
                injection hra with hra
                injection hra with hra
                subst hra
                have HG := hid hg0
                clear hh hmem ha hbv hg0 hvr2 e2' e3'
                unfold sv at d1
                go_wp2_with fail
                generalize wr.alloc (.cells #[.int .i64 a.kind, .string ⟨a.name.toArray⟩, .int .i64 a.at_, .slice bA a.b.length bc] 99) = w1 at *
                generalize wr.heap.size = ab at *
                have c2 : w1.cell? ⟨p, 2, none⟩ = some (.map (some bl)) := (Held.blk (l1 := [_]) HG.out).cell rfl
                obtain ⟨f0, f1, f2, f3⟩ : w1.cell? ⟨ab, 0, none⟩ = some (.int .i64 a.kind) ∧ w1.cell? ⟨ab, 1, none⟩ = some (.string ⟨a.name.toArray⟩) ∧ w1.cell? ⟨ab, 2, none⟩ = some (.int .i64 a.at_) ∧ w1.cell? ⟨ab, 3, none⟩ = some (.slice bA a.b.length bc) := ⟨(Held.blk0 HG.out).cell rfl, (Held.blk0 HG.out).cell rfl, (Held.blk0 HG.out).cell rfl, (Held.blk0 HG.out).cell rfl⟩
                have HC := hid (fdoes_held (A := [rBlk ab 99 #[.int .i64 a.kind, .string ⟨a.name.toArray⟩, .int .i64 a.at_, .slice bA a.b.length bc], rBlk p 43 _, rBig bytesLoc _, rRows 4 99 _ _, rRows 4 99 _ _]) (HG.out.drew) a bA bc (HS.out _ _ _ _ _ _ _ _ _) e2 e1 (by omega) (fun x hx => by have := (HF.out _ _ hx).2; have := HK.out.1.hold_room a.name; have := HK.out.1.room; omega))
                unfold deedV sv at HC
                go_region_held3 (fun w' => w'.cell? ⟨p, 2, none⟩ = some (.map (some bl)) ∧ w'.cell? ⟨ab, 0, none⟩ = some (.int .i64 a.kind) ∧ w'.cell? ⟨ab, 1, none⟩ = some (.string ⟨a.name.toArray⟩) ∧ w'.cell? ⟨ab, 2, none⟩ = some (.int .i64 a.at_) ∧ w'.cell? ⟨ab, 3, none⟩ = some (.slice bA a.b.length bc))
                  (first | exact ⟨c2, f0, f1, f2, f3⟩ | exact ⟨c2', f0', f1', f2', f3'⟩)
                  (first
                    | (go_at_call 52; refine HC.out.mono ?_; rintro e w2 ⟨rfl, g2'⟩; have c2' : w2.cell? ⟨p, 2, none⟩ = some (.map (some bl)) := (Held.blk (l1 := [_]) g2').cell rfl; obtain ⟨f0', f1', f2', f3'⟩ : w2.cell? ⟨ab, 0, none⟩ = some (.int .i64 a.kind) ∧ w2.cell? ⟨ab, 1, none⟩ = some (.string ⟨a.name.toArray⟩) ∧ w2.cell? ⟨ab, 2, none⟩ = some (.int .i64 a.at_) ∧ w2.cell? ⟨ab, 3, none⟩ = some (.slice bA a.b.length bc) := ⟨(Held.blk0 g2').cell rfl, (Held.blk0 g2').cell rfl, (Held.blk0 g2').cell rfl, (Held.blk0 g2').cell rfl⟩; have G2 := hid g2'; clear g2'))
                all_goals
                  go_wp2_with fail
                  exact ⟨⟨k2 + 1, by omega, by simp, HD.out _ _ _ _ _ _ (by rw [← HV.out]; exact G2.out)⟩, by show (n + 1) - ((k2 : Int) + 1).toNat < (n + 1) - (k2 : Int).toNat; omega⟩
              · obtain ⟨⟨c0, c1, c2, c3, c4⟩, hfz⟩ := crash_cells hh
                have hfull : kp.take k2 = kp := List.take_of_length_le (by rw [HLN.out]; omega)
                rw [hfull, HT.out] at hh
                have HE := hid (crash_end hh)
                have CR := hid (rest_held HE.out (dones_ok _ HK.out.1.lastOk) (fun n x hx => by
                  have h1 := dones_le (HK.out.1.kept ks tear) HK.out.1.lastLe n x hx
                  have := may_len h1.1
                  have := HK.out.1.hold_room n
                  have := HK.out.1.room
                  exact ⟨by omega, by omega⟩))
                clear hh hfull HE
                go_wp2_with fail
                refine CR.out.mono ?_
                rintro e w7 ⟨rfl, g7⟩
                have G7 := hid g7
                clear g7
                go_wp2_with fail
                go_ret
                exact ⟨rfl, G7.out⟩
          · by_cases ht1 : tear ≤ q.1.b.length
            · obtain ⟨t, rfl⟩ := Int.eq_ofNat_of_zero_le (a := tear) (by omega)
              have HKO := hid (kept_cut hko (m := q.1.b.length - t) (by omega))
              have HT := hid (show (init ++ [cutPair q (q.1.b.length - t)]).map (·.1) = torn (keeps d.pending ks) (t : Int) by
                rw [← hmap, List.map_append, List.map_append]
                show _ = torn (init.map (·.1) ++ [q.1]) (t : Int)
                rw [torn_snoc, if_pos hk0, show leftOver q.1.b.length (t : Int) = q.1.b.length - t by unfold leftOver; omega]
                rfl)
              obtain ⟨hcut, hfz2⟩ := crash_cut (m := q.1.b.length - t) (nr := n + 1) (by omega) hbv hh
              rw [← hn] at hcut hfz2
              have H5 := hid hcut
              have HLN := hid (show (init ++ [cutPair q (q.1.b.length - t)]).length = n + 1 by simp [hn])
              clear hko hmap hh hcut hbv hn
              generalize init ++ [cutPair q (q.1.b.length - t)] = kp at *
              go_wp2_with fail
              generalize wr.setCell ⟨g, n * 4 + 3, none⟩ _ = wr2 at *
              obtain ⟨wo, rfl⟩ : ∃ wo : World, wo = wr2 := ⟨_, rfl⟩
              go_wp2_with fail
              go_loopw [76] (fun iv wr => ∃ k : Nat, k ≤ (n + 1) ∧ iv = .int .i64 k ∧ CrashA w0 B p d ⟨bs, bl, bh, .slice vA ps.length vc⟩ ps kp (.slice (some ⟨g, 0, none⟩) (n + 1) rc) (((kp.take k).map (·.1)).foldl Files.does d.lasting) wr) (fun iv _ => (n + 1) - (intOf iv).toNat)
              case atStart => exact ⟨0, Nat.zero_le _, rfl, by rw [List.take_zero]; exact H5.out⟩
              case round =>
                obtain ⟨k2, hk2, rfl, hh⟩ := hrel
                clear H5
                by_cases hlt2 : k2 < (n + 1)
                · have hlt3 : k2 < kp.length := by rw [HLN.out]; exact hlt2
                  obtain ⟨g2, cc2, bA, bc, hvr2, hbv, b1, b2, d0, d1, d2, d3⟩ := kept_row HKO.out hh hlt3
                  have hra : (some ⟨g, 0, none⟩ : Option Addr) = some ⟨g2, 0, none⟩ := by injection hvr2
                  have hmem : kp[k2].1 ∈ torn (keeps d.pending ks) (t : Int) := by rw [← HT.out]; exact List.mem_map_of_mem (List.getElem_mem hlt3)
                  obtain ⟨e1, e2', e3'⟩ := HK.out.1.kept ks (t : Int) _ hmem
                  have e2 : kp[k2].1.name.length ≤ 9223372036854775807 := by have := may_len e2'; omega
                  have e3 : kp[k2].1.at_ + kp[k2].1.b.length ≤ 16777216 := by have := HK.out.1.hold_room kp[k2].1.name; have := HK.out.1.room; omega
                  have HS := hid (fun (B : List Res) (p ab : Nat) (t u : TypeId) (cs ds : Array Value) (x y : Res) => kept_src' (w0 := w0) (B := B) (p := p) (ab := ab) (t := t) (u := u) (cs := cs) (ds := ds) (x := x) (y := y) HKO.out hlt3 hbv)
                  have HD := hid (fun (w : World) (t : TypeId) (cs : Array Value) (i : DiskIn) (ab : Nat) (vr : Value) hx => crash_does (w0 := w0) (w := w) (B := B) (p := p) (ab := ab) (t := t) (cs := cs) (d := d) (i := i) (ps := ps) (kp := kp) (vr := vr) (f := d.lasting) hlt3 hx)
                  have HF := hid (fun (n x : Bytes) hx => dones_le (l := (kp.take k2).map (·.1)) (f := d.lasting) (g := d.held) (fun a ha => HK.out.1.kept ks (t : Int) a (by rw [← HT.out]; obtain ⟨y, hy, rfl⟩ := List.mem_map.1 ha; exact List.mem_map.2 ⟨y, (List.take_subset _ _) hy, rfl⟩)) HK.out.1.lastLe n x hx)
                  obtain ⟨a, ha⟩ : ∃ a, a = kp[k2].1 := ⟨_, rfl⟩
                  have HV := hid ha
                  rw [← ha] at d0 d1 d2 d3 e1 e2 e3 HS b1
                  have hg0 := (hh.block 99 #[.int .i64 a.kind, .string ⟨a.name.toArray⟩, .int .i64 a.at_, .slice bA a.b.length bc])
                  injection hra with hra
                  injection hra with hra
                  subst hra
                  have HG := hid hg0
                  clear hh hmem ha hbv hg0 hvr2 e2' e3'
                  unfold sv at d1
                  go_wp2_with fail
                  generalize wr.alloc (.cells #[.int .i64 a.kind, .string ⟨a.name.toArray⟩, .int .i64 a.at_, .slice bA a.b.length bc] 99) = w1 at *
                  generalize wr.heap.size = ab at *
                  have c2 : w1.cell? ⟨p, 2, none⟩ = some (.map (some bl)) := (Held.blk (l1 := [_]) HG.out).cell rfl
                  obtain ⟨f0, f1, f2, f3⟩ : w1.cell? ⟨ab, 0, none⟩ = some (.int .i64 a.kind) ∧ w1.cell? ⟨ab, 1, none⟩ = some (.string ⟨a.name.toArray⟩) ∧ w1.cell? ⟨ab, 2, none⟩ = some (.int .i64 a.at_) ∧ w1.cell? ⟨ab, 3, none⟩ = some (.slice bA a.b.length bc) := ⟨(Held.blk0 HG.out).cell rfl, (Held.blk0 HG.out).cell rfl, (Held.blk0 HG.out).cell rfl, (Held.blk0 HG.out).cell rfl⟩
                  have HC := hid (fdoes_held (A := [rBlk ab 99 #[.int .i64 a.kind, .string ⟨a.name.toArray⟩, .int .i64 a.at_, .slice bA a.b.length bc], rBlk p 43 _, rBig bytesLoc _, rRows 4 99 _ _, rRows 4 99 _ _]) (HG.out.drew) a bA bc (HS.out _ _ _ _ _ _ _ _ _) e2 e1 (by omega) (fun x hx => by have := (HF.out _ _ hx).2; have := HK.out.1.hold_room a.name; have := HK.out.1.room; omega))
                  unfold deedV sv at HC
                  go_region_held3 (fun w' => w'.cell? ⟨p, 2, none⟩ = some (.map (some bl)) ∧ w'.cell? ⟨ab, 0, none⟩ = some (.int .i64 a.kind) ∧ w'.cell? ⟨ab, 1, none⟩ = some (.string ⟨a.name.toArray⟩) ∧ w'.cell? ⟨ab, 2, none⟩ = some (.int .i64 a.at_) ∧ w'.cell? ⟨ab, 3, none⟩ = some (.slice bA a.b.length bc))
                    (first | exact ⟨c2, f0, f1, f2, f3⟩ | exact ⟨c2', f0', f1', f2', f3'⟩)
                    (first
                      | (go_at_call 52; refine HC.out.mono ?_; rintro e w2 ⟨rfl, g2'⟩; have c2' : w2.cell? ⟨p, 2, none⟩ = some (.map (some bl)) := (Held.blk (l1 := [_]) g2').cell rfl; obtain ⟨f0', f1', f2', f3'⟩ : w2.cell? ⟨ab, 0, none⟩ = some (.int .i64 a.kind) ∧ w2.cell? ⟨ab, 1, none⟩ = some (.string ⟨a.name.toArray⟩) ∧ w2.cell? ⟨ab, 2, none⟩ = some (.int .i64 a.at_) ∧ w2.cell? ⟨ab, 3, none⟩ = some (.slice bA a.b.length bc) := ⟨(Held.blk0 g2').cell rfl, (Held.blk0 g2').cell rfl, (Held.blk0 g2').cell rfl, (Held.blk0 g2').cell rfl⟩; have G2 := hid g2'; clear g2'))
                  all_goals
                    go_wp2_with fail
                    exact ⟨⟨k2 + 1, by omega, by simp, HD.out _ _ _ _ _ _ (by rw [← HV.out]; exact G2.out)⟩, by show (n + 1) - ((k2 : Int) + 1).toNat < (n + 1) - (k2 : Int).toNat; omega⟩
                · obtain ⟨⟨c0, c1, c2, c3, c4⟩, hfz⟩ := crash_cells hh
                  have hfull : kp.take k2 = kp := List.take_of_length_le (by rw [HLN.out]; omega)
                  rw [hfull, HT.out] at hh
                  have HE := hid (crash_end hh)
                  have CR := hid (rest_held HE.out (dones_ok _ HK.out.1.lastOk) (fun n x hx => by
                    have h1 := dones_le (HK.out.1.kept ks (t : Int)) HK.out.1.lastLe n x hx
                    have := may_len h1.1
                    have := HK.out.1.hold_room n
                    have := HK.out.1.room
                    exact ⟨by omega, by omega⟩))
                  clear hh hfull HE
                  go_wp2_with fail
                  refine CR.out.mono ?_
                  rintro e w7 ⟨rfl, g7⟩
                  have G7 := hid g7
                  clear g7
                  go_wp2_with fail
                  go_ret
                  exact ⟨rfl, G7.out⟩
            · have HKO := hid (kept_cut hko (m := 0) (by omega))
              have HT := hid (show (init ++ [cutPair q (0)]).map (·.1) = torn (keeps d.pending ks) tear by
                rw [← hmap, List.map_append, List.map_append]
                show _ = torn (init.map (·.1) ++ [q.1]) tear
                rw [torn_snoc, if_pos hk0, show leftOver q.1.b.length tear = 0 by unfold leftOver; omega]
                rfl)
              obtain ⟨hcut, hfz2⟩ := crash_cut (m := 0) (nr := n + 1) (by omega) hbv hh
              rw [← hn] at hcut hfz2
              have H5 := hid hcut
              have HLN := hid (show (init ++ [cutPair q (0)]).length = n + 1 by simp [hn])
              clear hko hmap hh hcut hbv hn
              generalize init ++ [cutPair q (0)] = kp at *
              go_wp2_with fail
              generalize wr.setCell ⟨g, n * 4 + 3, none⟩ _ = wr2 at *
              obtain ⟨wo, rfl⟩ : ∃ wo : World, wo = wr2 := ⟨_, rfl⟩
              go_wp2_with fail
              go_loopw [76] (fun iv wr => ∃ k : Nat, k ≤ (n + 1) ∧ iv = .int .i64 k ∧ CrashA w0 B p d ⟨bs, bl, bh, .slice vA ps.length vc⟩ ps kp (.slice (some ⟨g, 0, none⟩) (n + 1) rc) (((kp.take k).map (·.1)).foldl Files.does d.lasting) wr) (fun iv _ => (n + 1) - (intOf iv).toNat)
              case atStart => exact ⟨0, Nat.zero_le _, rfl, by rw [List.take_zero]; exact H5.out⟩
              case round =>
                obtain ⟨k2, hk2, rfl, hh⟩ := hrel
                clear H5
                by_cases hlt2 : k2 < (n + 1)
                · have hlt3 : k2 < kp.length := by rw [HLN.out]; exact hlt2
                  obtain ⟨g2, cc2, bA, bc, hvr2, hbv, b1, b2, d0, d1, d2, d3⟩ := kept_row HKO.out hh hlt3
                  have hra : (some ⟨g, 0, none⟩ : Option Addr) = some ⟨g2, 0, none⟩ := by injection hvr2
                  have hmem : kp[k2].1 ∈ torn (keeps d.pending ks) tear := by rw [← HT.out]; exact List.mem_map_of_mem (List.getElem_mem hlt3)
                  obtain ⟨e1, e2', e3'⟩ := HK.out.1.kept ks tear _ hmem
                  have e2 : kp[k2].1.name.length ≤ 9223372036854775807 := by have := may_len e2'; omega
                  have e3 : kp[k2].1.at_ + kp[k2].1.b.length ≤ 16777216 := by have := HK.out.1.hold_room kp[k2].1.name; have := HK.out.1.room; omega
                  have HS := hid (fun (B : List Res) (p ab : Nat) (t u : TypeId) (cs ds : Array Value) (x y : Res) => kept_src' (w0 := w0) (B := B) (p := p) (ab := ab) (t := t) (u := u) (cs := cs) (ds := ds) (x := x) (y := y) HKO.out hlt3 hbv)
                  have HD := hid (fun (w : World) (t : TypeId) (cs : Array Value) (i : DiskIn) (ab : Nat) (vr : Value) hx => crash_does (w0 := w0) (w := w) (B := B) (p := p) (ab := ab) (t := t) (cs := cs) (d := d) (i := i) (ps := ps) (kp := kp) (vr := vr) (f := d.lasting) hlt3 hx)
                  have HF := hid (fun (n x : Bytes) hx => dones_le (l := (kp.take k2).map (·.1)) (f := d.lasting) (g := d.held) (fun a ha => HK.out.1.kept ks tear a (by rw [← HT.out]; obtain ⟨y, hy, rfl⟩ := List.mem_map.1 ha; exact List.mem_map.2 ⟨y, (List.take_subset _ _) hy, rfl⟩)) HK.out.1.lastLe n x hx)
                  obtain ⟨a, ha⟩ : ∃ a, a = kp[k2].1 := ⟨_, rfl⟩
                  have HV := hid ha
                  rw [← ha] at d0 d1 d2 d3 e1 e2 e3 HS b1
                  have hg0 := (hh.block 99 #[.int .i64 a.kind, .string ⟨a.name.toArray⟩, .int .i64 a.at_, .slice bA a.b.length bc])
                  injection hra with hra
                  injection hra with hra
                  subst hra
                  have HG := hid hg0
                  clear hh hmem ha hbv hg0 hvr2 e2' e3'
                  unfold sv at d1
                  go_wp2_with fail
                  generalize wr.alloc (.cells #[.int .i64 a.kind, .string ⟨a.name.toArray⟩, .int .i64 a.at_, .slice bA a.b.length bc] 99) = w1 at *
                  generalize wr.heap.size = ab at *
                  have c2 : w1.cell? ⟨p, 2, none⟩ = some (.map (some bl)) := (Held.blk (l1 := [_]) HG.out).cell rfl
                  obtain ⟨f0, f1, f2, f3⟩ : w1.cell? ⟨ab, 0, none⟩ = some (.int .i64 a.kind) ∧ w1.cell? ⟨ab, 1, none⟩ = some (.string ⟨a.name.toArray⟩) ∧ w1.cell? ⟨ab, 2, none⟩ = some (.int .i64 a.at_) ∧ w1.cell? ⟨ab, 3, none⟩ = some (.slice bA a.b.length bc) := ⟨(Held.blk0 HG.out).cell rfl, (Held.blk0 HG.out).cell rfl, (Held.blk0 HG.out).cell rfl, (Held.blk0 HG.out).cell rfl⟩
                  have HC := hid (fdoes_held (A := [rBlk ab 99 #[.int .i64 a.kind, .string ⟨a.name.toArray⟩, .int .i64 a.at_, .slice bA a.b.length bc], rBlk p 43 _, rBig bytesLoc _, rRows 4 99 _ _, rRows 4 99 _ _]) (HG.out.drew) a bA bc (HS.out _ _ _ _ _ _ _ _ _) e2 e1 (by omega) (fun x hx => by have := (HF.out _ _ hx).2; have := HK.out.1.hold_room a.name; have := HK.out.1.room; omega))
                  unfold deedV sv at HC
                  go_region_held3 (fun w' => w'.cell? ⟨p, 2, none⟩ = some (.map (some bl)) ∧ w'.cell? ⟨ab, 0, none⟩ = some (.int .i64 a.kind) ∧ w'.cell? ⟨ab, 1, none⟩ = some (.string ⟨a.name.toArray⟩) ∧ w'.cell? ⟨ab, 2, none⟩ = some (.int .i64 a.at_) ∧ w'.cell? ⟨ab, 3, none⟩ = some (.slice bA a.b.length bc))
                    (first | exact ⟨c2, f0, f1, f2, f3⟩ | exact ⟨c2', f0', f1', f2', f3'⟩)
                    (first
                      | (go_at_call 52; refine HC.out.mono ?_; rintro e w2 ⟨rfl, g2'⟩; have c2' : w2.cell? ⟨p, 2, none⟩ = some (.map (some bl)) := (Held.blk (l1 := [_]) g2').cell rfl; obtain ⟨f0', f1', f2', f3'⟩ : w2.cell? ⟨ab, 0, none⟩ = some (.int .i64 a.kind) ∧ w2.cell? ⟨ab, 1, none⟩ = some (.string ⟨a.name.toArray⟩) ∧ w2.cell? ⟨ab, 2, none⟩ = some (.int .i64 a.at_) ∧ w2.cell? ⟨ab, 3, none⟩ = some (.slice bA a.b.length bc) := ⟨(Held.blk0 g2').cell rfl, (Held.blk0 g2').cell rfl, (Held.blk0 g2').cell rfl, (Held.blk0 g2').cell rfl⟩; have G2 := hid g2'; clear g2'))
                  all_goals
                    go_wp2_with fail
                    exact ⟨⟨k2 + 1, by omega, by simp, HD.out _ _ _ _ _ _ (by rw [← HV.out]; exact G2.out)⟩, by show (n + 1) - ((k2 : Int) + 1).toNat < (n + 1) - (k2 : Int).toNat; omega⟩
                · obtain ⟨⟨c0, c1, c2, c3, c4⟩, hfz⟩ := crash_cells hh
                  have hfull : kp.take k2 = kp := List.take_of_length_le (by rw [HLN.out]; omega)
                  rw [hfull, HT.out] at hh
                  have HE := hid (crash_end hh)
                  have CR := hid (rest_held HE.out (dones_ok _ HK.out.1.lastOk) (fun n x hx => by
                    have h1 := dones_le (HK.out.1.kept ks tear) HK.out.1.lastLe n x hx
                    have := may_len h1.1
                    have := HK.out.1.hold_room n
                    have := HK.out.1.room
                    exact ⟨by omega, by omega⟩))
                  clear hh hfull HE
                  go_wp2_with fail
                  refine CR.out.mono ?_
                  rintro e w7 ⟨rfl, g7⟩
                  have G7 := hid g7
                  clear g7
                  go_wp2_with fail
                  go_ret
                  exact ⟨rfl, G7.out⟩
        · have hk0' : ((q.1.kind : Int) == 0) = false := by simpa using hk0
          have HKO := hid hko
          have HT := hid (show (init ++ [q]).map (·.1) = torn (keeps d.pending ks) tear by
            rw [← hmap, List.map_append]
            show _ = torn (init.map (·.1) ++ [q.1]) tear
            rw [torn_snoc, if_neg hk0]
            rfl)
          have H5 := hid hh
          have HLN := hid hlen
          obtain ⟨kd, hkd⟩ : ∃ kd : Nat, kd = q.1.kind := ⟨_, rfl⟩
          rw [← hkd] at d0 hk0'
          clear hko hmap hh hbv hn hlen hkd hk0 d3 b1
          generalize init ++ [q] = kp at *
          generalize hrA : some (⟨g, 0, none⟩ : Addr) = rA at *
          generalize hln : n + 1 = ln at *
          have HZ := hid (And.intro hrA hln)
          obtain rfl := hrA.symm
          obtain rfl := hln.symm
          obtain ⟨wo, rfl⟩ : ∃ wo : World, wo = wr := ⟨_, rfl⟩
          go_wp2_with fail
          go_loopw [76] (fun iv wr => ∃ k : Nat, k ≤ (n + 1) ∧ iv = .int .i64 k ∧ CrashA w0 B p d ⟨bs, bl, bh, .slice vA ps.length vc⟩ ps kp (.slice (some ⟨g, 0, none⟩) (n + 1) rc) (((kp.take k).map (·.1)).foldl Files.does d.lasting) wr) (fun iv _ => (n + 1) - (intOf iv).toNat)
          case atStart => exact ⟨0, Nat.zero_le _, rfl, by rw [List.take_zero]; exact H5.out⟩
          case round =>
            obtain ⟨k2, hk2, rfl, hh⟩ := hrel
            clear H5
            by_cases hlt2 : k2 < (n + 1)
            · have hlt3 : k2 < kp.length := by rw [HLN.out]; exact hlt2
              obtain ⟨g2, cc2, bA, bc, hvr2, hbv, b1, b2, d0, d1, d2, d3⟩ := kept_row HKO.out hh hlt3
              have hra : (some ⟨g, 0, none⟩ : Option Addr) = some ⟨g2, 0, none⟩ := by injection hvr2
              have hmem : kp[k2].1 ∈ torn (keeps d.pending ks) tear := by rw [← HT.out]; exact List.mem_map_of_mem (List.getElem_mem hlt3)
              obtain ⟨e1, e2', e3'⟩ := HK.out.1.kept ks tear _ hmem
              have e2 : kp[k2].1.name.length ≤ 9223372036854775807 := by have := may_len e2'; omega
              have e3 : kp[k2].1.at_ + kp[k2].1.b.length ≤ 16777216 := by have := HK.out.1.hold_room kp[k2].1.name; have := HK.out.1.room; omega
              have HS := hid (fun (B : List Res) (p ab : Nat) (t u : TypeId) (cs ds : Array Value) (x y : Res) => kept_src' (w0 := w0) (B := B) (p := p) (ab := ab) (t := t) (u := u) (cs := cs) (ds := ds) (x := x) (y := y) HKO.out hlt3 hbv)
              have HD := hid (fun (w : World) (t : TypeId) (cs : Array Value) (i : DiskIn) (ab : Nat) (vr : Value) hx => crash_does (w0 := w0) (w := w) (B := B) (p := p) (ab := ab) (t := t) (cs := cs) (d := d) (i := i) (ps := ps) (kp := kp) (vr := vr) (f := d.lasting) hlt3 hx)
              have HF := hid (fun (n x : Bytes) hx => dones_le (l := (kp.take k2).map (·.1)) (f := d.lasting) (g := d.held) (fun a ha => HK.out.1.kept ks tear a (by rw [← HT.out]; obtain ⟨y, hy, rfl⟩ := List.mem_map.1 ha; exact List.mem_map.2 ⟨y, (List.take_subset _ _) hy, rfl⟩)) HK.out.1.lastLe n x hx)
              obtain ⟨a, ha⟩ : ∃ a, a = kp[k2].1 := ⟨_, rfl⟩
              have HV := hid ha
              rw [← ha] at d0 d1 d2 d3 e1 e2 e3 HS b1
              have hg0 := (hh.block 99 #[.int .i64 a.kind, .string ⟨a.name.toArray⟩, .int .i64 a.at_, .slice bA a.b.length bc])
              injection hra with hra
              injection hra with hra
              subst hra
              have HG := hid hg0
              clear hh hmem ha hbv hg0 hvr2 e2' e3'
              unfold sv at d1
              go_wp2_with fail
              generalize wr.alloc (.cells #[.int .i64 a.kind, .string ⟨a.name.toArray⟩, .int .i64 a.at_, .slice bA a.b.length bc] 99) = w1 at *
              generalize wr.heap.size = ab at *
              have c2 : w1.cell? ⟨p, 2, none⟩ = some (.map (some bl)) := (Held.blk (l1 := [_]) HG.out).cell rfl
              obtain ⟨f0, f1, f2, f3⟩ : w1.cell? ⟨ab, 0, none⟩ = some (.int .i64 a.kind) ∧ w1.cell? ⟨ab, 1, none⟩ = some (.string ⟨a.name.toArray⟩) ∧ w1.cell? ⟨ab, 2, none⟩ = some (.int .i64 a.at_) ∧ w1.cell? ⟨ab, 3, none⟩ = some (.slice bA a.b.length bc) := ⟨(Held.blk0 HG.out).cell rfl, (Held.blk0 HG.out).cell rfl, (Held.blk0 HG.out).cell rfl, (Held.blk0 HG.out).cell rfl⟩
              have HC := hid (fdoes_held (A := [rBlk ab 99 #[.int .i64 a.kind, .string ⟨a.name.toArray⟩, .int .i64 a.at_, .slice bA a.b.length bc], rBlk p 43 _, rBig bytesLoc _, rRows 4 99 _ _, rRows 4 99 _ _]) (HG.out.drew) a bA bc (HS.out _ _ _ _ _ _ _ _ _) e2 e1 (by omega) (fun x hx => by have := (HF.out _ _ hx).2; have := HK.out.1.hold_room a.name; have := HK.out.1.room; omega))
              unfold deedV sv at HC
              go_region_held3 (fun w' => w'.cell? ⟨p, 2, none⟩ = some (.map (some bl)) ∧ w'.cell? ⟨ab, 0, none⟩ = some (.int .i64 a.kind) ∧ w'.cell? ⟨ab, 1, none⟩ = some (.string ⟨a.name.toArray⟩) ∧ w'.cell? ⟨ab, 2, none⟩ = some (.int .i64 a.at_) ∧ w'.cell? ⟨ab, 3, none⟩ = some (.slice bA a.b.length bc))
                (first | exact ⟨c2, f0, f1, f2, f3⟩ | exact ⟨c2', f0', f1', f2', f3'⟩)
                (first
                  | (go_at_call 52; refine HC.out.mono ?_; rintro e w2 ⟨rfl, g2'⟩; have c2' : w2.cell? ⟨p, 2, none⟩ = some (.map (some bl)) := (Held.blk (l1 := [_]) g2').cell rfl; obtain ⟨f0', f1', f2', f3'⟩ : w2.cell? ⟨ab, 0, none⟩ = some (.int .i64 a.kind) ∧ w2.cell? ⟨ab, 1, none⟩ = some (.string ⟨a.name.toArray⟩) ∧ w2.cell? ⟨ab, 2, none⟩ = some (.int .i64 a.at_) ∧ w2.cell? ⟨ab, 3, none⟩ = some (.slice bA a.b.length bc) := ⟨(Held.blk0 g2').cell rfl, (Held.blk0 g2').cell rfl, (Held.blk0 g2').cell rfl, (Held.blk0 g2').cell rfl⟩; have G2 := hid g2'; clear g2'))
              all_goals
                go_wp2_with fail
                exact ⟨⟨k2 + 1, by omega, by simp, HD.out _ _ _ _ _ _ (by rw [← HV.out]; exact G2.out)⟩, by show (n + 1) - ((k2 : Int) + 1).toNat < (n + 1) - (k2 : Int).toNat; omega⟩
            · obtain ⟨⟨c0, c1, c2, c3, c4⟩, hfz⟩ := crash_cells hh
              have hfull : kp.take k2 = kp := List.take_of_length_le (by rw [HLN.out]; omega)
              rw [hfull, HT.out] at hh
              have HE := hid (crash_end hh)
              have CR := hid (rest_held HE.out (dones_ok _ HK.out.1.lastOk) (fun n x hx => by
                have h1 := dones_le (HK.out.1.kept ks tear) HK.out.1.lastLe n x hx
                have := may_len h1.1
                have := HK.out.1.hold_room n
                have := HK.out.1.room
                exact ⟨by omega, by omega⟩))
              clear hh hfull HE
              go_wp2_with fail
              refine CR.out.mono ?_
              rintro e w7 ⟨rfl, g7⟩
              have G7 := hid g7
              clear g7
              go_wp2_with fail
              go_ret
              exact ⟨rfl, G7.out⟩
end Go.Proofs.YtbpgclhpbiohpaaGreatDoor

/- disk: New; maps.Clone of what is held; a clone half way. -/
namespace Go.Proofs.YtbpgclhpbiohpaaGreatDoor
open Go.RowKit
open Disk

section
variable {w0 w : World} {B : List Res}
theorem Held.files_made (h : Held w0 w B) : Held w0 (w.alloc (.map #[] 0)) (rFiles w.heap.size [] :: B) :=
  Held.files_close (A := []) (ys := []) (.refl _) (Held.pull1 (Held.big_nil fileLoc (h.map_made Tryz.prog 9)))
theorem Held.hold_made (h : Held w0 w B) : Held w0 (w.alloc (.map #[] 0)) (rHeld w.heap.size [] :: B) := h.map_made Tryz.prog 9
theorem Held.acts_nil (h : Held w0 w B) : Held w0 w (rActs (.slice none 0 0) [] :: B) := Held.acts_shut (ps := []) (Held.pull1 (Held.big_nil bytesLoc (h.rows_nil 4 99)))

set_option maxRecDepth 100000 in
theorem new_held (h : Held w0 w B) (k : Nat) (hk : k ≤ 16777216) :
    Calls Tryz.prog 28 #[.int .i64 k] w fun e w' => ∃ p, e = .returned (.tuple #[.pointer (some ⟨p, 0, none⟩), .int .i64 0]) ∧ Held w0 w' (rDisk p (Dk.empty k) :: B) := by
  have hmm := @run_makeMap Tryz.prog
  have h1 := h.files_made
  have h2 := h1.files_made
  have h3 := h2.hold_made
  have h4 := h3.block 43 (diskCells (Dk.empty k) ⟨w.heap.size, w.heap.size + 1, w.heap.size + 1 + 1, .slice none 0 0⟩)
  have h5 := h4.acts_nil
  have h6 := h5.pull2.pull1.pull3.pull4.pull4
  rw [World.size_alloc, World.size_alloc, World.size_alloc] at h6
  have HX := hid (Held.dshut (d := Dk.empty k) ⟨w.heap.size, w.heap.size + 1, w.heap.size + 1 + 1, .slice none 0 0⟩ h6)
  clear h h1 h2 h3 h4 h5 h6
  go_enter Tryz.func28, Tryz.ntmps28
  go_wp2_with fail
  go_ret2
  exact ⟨_, rfl, HX.out⟩

set_option maxRecDepth 100000 in
theorem mclone_any (w : World) (b : Nat) (es : Array MapEntry) (clock : Nat) (hb : w.heap[b]? = some (.map es clock)) :
    Calls Tryz.prog 84 #[.map (some b)] w fun e w' => e = .returned (.map (some w.heap.size)) ∧ w' = w.alloc (.map es clock) := by
  have hq := fun w => run_eql_map_nil_sl (P := Tryz.prog) w 41 _ _ (some b) Tryz.underlying41
  go_enter Tryz.func84, Tryz.ntmps84
  go_wp2
  rw [run_callFunc_extern Tryz.func112 (by kernel_rfl) (by kernel_rfl) (by kernel_rfl) (e := Extern.MapsClone.clone) (by kernel_rfl), run_maps_clone_sl w 41 hb]
  simp only [Result.andThen]
  rw [Oper.upon_value]
  go_wp2
  rw [run_typeAssert_map_sl _ 41 20 _ _ _ Tryz.underlying41]
  simp only [Result.andThen]
  rw [Oper.upon_value]
  go_wp2
  go_ret
  exact ⟨rfl, rfl⟩
theorem mclone_held {A : List Res} {bh : Nat} {hd : Dict Nat} (h : Held w0 w (A ++ rHeld bh hd :: B)) :
    Calls Tryz.prog 84 #[.map (some bh)] w fun e w' => ∃ b3, e = .returned (.map (some b3)) ∧ Held w0 w' (rHeld b3 hd :: (A ++ rHeld bh hd :: B)) := by
  obtain ⟨es, clk, hb, hi⟩ := h.held_at
  refine (mclone_any w bh es clk hb).mono ?_
  rintro e w' ⟨he, rfl⟩
  refine ⟨_, he, h.more (F := [w.heap.size]) ⟨⟨es, clk, heap_alloc_new w _, hi⟩, rfl⟩ ⟨(Mod.refl _ w).alloc _, by simp, fun b hb => .inr (by simp at hb; omega)⟩⟩
end

/-- the disk that is cloned, and what was cloned of it. -/
def CloneMid (w0 : World) (B : List Res) (p : Nat) (d : Dk) (bs bl bh : Nat) (vp : Value) (A : List Res) (w : World) : Prop :=
  Held w0 w (A ++ (rBlk p 43 (diskCells d ⟨bs, bl, bh, vp⟩) :: rFiles bs d.seen :: rFiles bl d.lasting :: rActs vp d.pending :: rHeld bh d.held :: B))
section
variable {w0 w : World} {B A : List Res} {p : Nat} {d : Dk} {bs bl bh : Nat} {vp : Value}
theorem CloneMid.cells (h : CloneMid w0 B p d bs bl bh vp A w) : w.cell? ⟨p, 0, none⟩ = some (.int .i64 d.room) ∧ w.cell? ⟨p, 1, none⟩ = some (.map (some bs)) ∧ w.cell? ⟨p, 2, none⟩ = some (.map (some bl)) ∧ w.cell? ⟨p, 4, none⟩ = some (.map (some bh)) := by
  have hb := Held.blk h
  exact ⟨hb.cell rfl, hb.cell rfl, hb.cell rfl, hb.cell rfl⟩
theorem perm_out {α : Type} (A : List α) (x : α) (C B : List α) : (A ++ (C ++ x :: B)).Perm (x :: (A ++ (C ++ B))) := by
  rw [← List.append_assoc, ← List.append_assoc]
  exact List.perm_middle
theorem CloneMid.seen (h : CloneMid w0 B p d bs bl bh vp A w) (hok : d.Ok) :
    Calls Tryz.prog 83 #[.map (some bs)] w fun e w' => ∃ b1, e = .returned (.map (some b1)) ∧ CloneMid w0 B p d bs bl bh vp (rFiles b1 d.seen :: A) w' := by
  have h' : Held w0 w ((A ++ [rBlk p 43 (diskCells d ⟨bs, bl, bh, vp⟩)]) ++ rFiles bs d.seen :: rFiles bl d.lasting :: rActs vp d.pending :: rHeld bh d.held :: B) := by simpa [CloneMid] using h
  refine (copied_held h' (fun q hq => ?_) (fun q hq => ?_)).mono ?_
  · have := Dk.Ok.len hok (get_of_mem hok.seenOk hq); omega
  · have := may_len (hok.seenLe q.1 q.2 (get_of_mem hok.seenOk hq)).1; omega
  · rintro e w' ⟨b1, he, g⟩
    refine ⟨b1, he, ?_⟩
    have g' := g.perm (Rs' := rFiles b1 d.seen :: ((A ++ [rBlk p 43 (diskCells d ⟨bs, bl, bh, vp⟩)]) ++ (rFiles bs d.seen :: rFiles bl d.lasting :: rActs vp d.pending :: rHeld bh d.held :: B))) List.perm_middle
    simpa [CloneMid] using g'
theorem Disk.Dk.Ok.len_last {d : Dk} (hok : d.Ok) {n x : Bytes} (h : Dict.get d.lasting n = some x) : x.length ≤ 16777216 ∧ n.length ≤ 24 := by
  have h1 := hok.lastLe n x h
  have := hok.hold_room n
  have := hok.room
  exact ⟨by omega, may_len h1.1⟩
theorem CloneMid.last (h : CloneMid w0 B p d bs bl bh vp A w) (hok : d.Ok) :
    Calls Tryz.prog 83 #[.map (some bl)] w fun e w' => ∃ b2, e = .returned (.map (some b2)) ∧ CloneMid w0 B p d bs bl bh vp (rFiles b2 d.lasting :: A) w' := by
  have h' : Held w0 w ((A ++ [rBlk p 43 (diskCells d ⟨bs, bl, bh, vp⟩), rFiles bs d.seen]) ++ rFiles bl d.lasting :: rActs vp d.pending :: rHeld bh d.held :: B) := by simpa [CloneMid] using h
  refine (copied_held h' (fun q hq => ?_) (fun q hq => ?_)).mono ?_
  · have := (hok.len_last (get_of_mem hok.lastOk hq)).1; omega
  · have := (hok.len_last (get_of_mem hok.lastOk hq)).2; omega
  · rintro e w' ⟨b1, he, g⟩
    refine ⟨b1, he, ?_⟩
    have g' := g.perm (Rs' := rFiles b1 d.lasting :: ((A ++ [rBlk p 43 (diskCells d ⟨bs, bl, bh, vp⟩), rFiles bs d.seen]) ++ (rFiles bl d.lasting :: rActs vp d.pending :: rHeld bh d.held :: B))) List.perm_middle
    simpa [CloneMid] using g'
theorem CloneMid.hold (h : CloneMid w0 B p d bs bl bh vp A w) :
    Calls Tryz.prog 84 #[.map (some bh)] w fun e w' => ∃ b3, e = .returned (.map (some b3)) ∧ CloneMid w0 B p d bs bl bh vp (rHeld b3 d.held :: A) w' := by
  have h' : Held w0 w ((A ++ [rBlk p 43 (diskCells d ⟨bs, bl, bh, vp⟩), rFiles bs d.seen, rFiles bl d.lasting, rActs vp d.pending]) ++ rHeld bh d.held :: B) := by simpa [CloneMid] using h
  refine (mclone_held h').mono ?_
  rintro e w' ⟨b1, he, g⟩
  exact ⟨b1, he, by simpa [CloneMid] using g⟩
theorem CloneMid.drew (h : CloneMid w0 B p d bs bl bh vp A w) : CloneMid w0 B p d bs bl bh vp A w.drew := Held.drew h
end
end Go.Proofs.YtbpgclhpbiohpaaGreatDoor

/- disk: Clone. -/
namespace Go.Proofs.YtbpgclhpbiohpaaGreatDoor
open Go.RowKit
open Disk

def CloneAt (w0 : World) (B : List Res) (p q : Nat) (d : Dk) (b1 b2 b3 bs bl bh : Nat) (vA : Option Addr) (vc : Nat) (ps : List (Deed × Value)) (k : Nat) (w : World) : Prop :=
  ∃ (vr : Value) (cps : List (Deed × Value)), cps.map (·.1) = (ps.take k).map (·.1) ∧
    Held w0 w (rBlk q 43 (diskCells d ⟨b1, b2, b3, vr⟩) :: rRows 4 99 (.slice vA ps.length vc) (ps.map rowOf) :: rBig bytesLoc (ps.map bOf) :: rRows 4 99 vr (cps.map rowOf) :: rBig bytesLoc (cps.map bOf) :: rFiles b1 d.seen :: rFiles b2 d.lasting :: rHeld b3 d.held :: rBlk p 43 (diskCells d ⟨bs, bl, bh, .slice vA ps.length vc⟩) :: rFiles bs d.seen :: rFiles bl d.lasting :: rHeld bh d.held :: B)
section
variable {w0 w : World} {B : List Res} {p q : Nat} {d : Dk} {b1 b2 b3 bs bl bh vc : Nat} {vA : Option Addr} {ps : List (Deed × Value)}
theorem clone_begin {A : List Res} {vp : Value} (h : CloneMid w0 B p d bs bl bh vp A w) (hA : A.Perm [rFiles b1 d.seen, rFiles b2 d.lasting, rHeld b3 d.held]) (hv : vp = .slice vA d.pending.length vc) :
    ∃ ps, ps.map (·.1) = d.pending ∧ ps.length = d.pending.length ∧ CloneAt w0 B p w.heap.size d b1 b2 b3 bs bl bh vA vc ps 0 (w.alloc (.cells #[.int .i64 d.room, .map (some b1), .map (some b2), .slice none 0 0, .map (some b3)] 43)) := by
  have h1 : Held w0 w (rFiles b1 d.seen :: rFiles b2 d.lasting :: rHeld b3 d.held :: rBlk p 43 (diskCells d ⟨bs, bl, bh, vp⟩) :: rFiles bs d.seen :: rFiles bl d.lasting :: rActs vp d.pending :: rHeld bh d.held :: B) := Held.perm h (hA.append_right _)
  obtain ⟨ps, hps, h2⟩ := Held.acts_open h1.pull6
  have hl : ps.length = d.pending.length := by rw [← hps]; simp
  refine ⟨ps, hps, hl, .slice none 0 0, [], by simp, ?_⟩
  -- rows, big, f1, f2, h3, blk, fs, fl, h
  have h3 := Held.big_nil bytesLoc (h2.rows_nil 4 99)
  -- bignil, rowsnil, rows, big, ..
  have h4 := h3.pull1.pull3.pull3
  have h5 := h4.block 43 (diskCells d ⟨b1, b2, b3, .slice none 0 0⟩)
  rw [hv, ← hl] at h5
  exact h5
theorem clone_cell {k : Nat} (h : CloneAt w0 B p q d b1 b2 b3 bs bl bh vA vc ps k w) : w.cell? ⟨p, 3, none⟩ = some (.slice vA ps.length vc) := by
  obtain ⟨vr, cps, hc, h⟩ := h
  exact (Held.blk (l1 := [_, _, _, _, _, _, _, _]) h).cell rfl
theorem clone_done (hps : ps.map (·.1) = d.pending) {k : Nat} (hk : k = ps.length) (h : CloneAt w0 B p q d b1 b2 b3 bs bl bh vA vc ps k w) : Held w0 w (rDisk q d :: rDisk p d :: B) := by
  obtain ⟨vr, cps, hc, h⟩ := h
  rw [hk, List.take_length, hps] at hc
  -- blkq, rows, big, crows, cbig, f1, f2, h3, blkp, fs, fl, h
  have h1 := Held.acts_shut (h.pull4.pull4)
  rw [hc] at h1
  -- actsq, blkq, rows, big, f1, f2, h3, blkp, fs, fl, h
  have h2 := Held.acts_shut (h1.pull3.pull3)
  rw [hps] at h2
  -- actsp, actsq, blkq, f1, f2, h3, blkp, fs, fl, h
  have h3 := Held.dshut (d := d) ⟨bs, bl, bh, .slice vA ps.length vc⟩ (h2.pull9.pull1.pull9.pull9.pull9)
  -- diskp, h.. 
  have h4 := Held.dshut (d := d) ⟨b1, b2, b3, vr⟩ ((h3.pull5.pull2.pull5.pull5.pull5))
  exact h4
theorem clone_step {ab : Nat} {t : TypeId} {cs : Array Value} {cps : List (Deed × Value)} {vr v' : Value} {k : Nat} {nA : Option Addr} {nc : Nat} (hk : k < ps.length) (hc : cps.map (·.1) = (ps.take k).map (·.1))
    (h : Held w0 w ([rBytes (.slice nA ps[k].1.b.length nc) ps[k].1.b, rBlk ab t cs, rBlk q 43 (diskCells d ⟨b1, b2, b3, vr⟩), rRows 4 99 (.slice vA ps.length vc) (ps.map rowOf), rBig bytesLoc (ps.map bOf)] ++ rRows 4 99 v' (cps.map rowOf ++ [[.int .i64 ps[k].1.kind, .string ⟨ps[k].1.name.toArray⟩, .int .i64 ps[k].1.at_, .slice nA ps[k].1.b.length nc]]) :: rBig bytesLoc (cps.map bOf) :: rFiles b1 d.seen :: rFiles b2 d.lasting :: rHeld b3 d.held :: rBlk p 43 (diskCells d ⟨bs, bl, bh, .slice vA ps.length vc⟩) :: rFiles bs d.seen :: rFiles bl d.lasting :: rHeld bh d.held :: B)) :
    CloneAt w0 B p q d b1 b2 b3 bs bl bh vA vc ps (k + 1) (w.setCell ⟨q, 3, none⟩ v') := by
  have h1 := Held.drop0 (Held.pull1 h)
  -- bytes, blkq, rows, big, crows, cbig, ..
  have h2 := Held.store (l1 := [_]) h1 3 v'
  have e : (diskCells d ⟨b1, b2, b3, vr⟩).setIfInBounds 3 v' = diskCells d ⟨b1, b2, b3, v'⟩ := by simp [diskCells]
  rw [e] at h2
  refine ⟨v', cps ++ [(ps[k].1, .slice nA ps[k].1.b.length nc)], ?_, ?_⟩
  · rw [List.map_append, hc, List.take_succ_eq_append_getElem hk, List.map_append]
    rfl
  · have h3 := Held.push1 (Held.pull5 h2)
    -- bytes, cbig, blkq, rows, big, crows, ..
    have h4 := Held.big_snoc (A := []) bytesLoc (l := cps.map bOf) (x := (.slice nA ps[k].1.b.length nc, ps[k].1.b)) (h3.pull1)
    have h5 := Held.push4 h4
    rw [List.map_append, List.map_append]
    exact h5
end

set_option maxRecDepth 100000 in
set_option maxHeartbeats 4000000 in
theorem clone_disk {w0 w : World} {B : List Res} {p : Nat} {d : Dk} (h : Held w0 w (rDisk p d :: B)) (hok : d.Ok) (hpl : d.pending.length ≤ 1000000) :
    Calls Tryz.prog 44 #[.pointer (some ⟨p, 0, none⟩)] w fun e w' => ∃ q, e = .returned (.pointer (some ⟨q, 0, none⟩)) ∧ Held w0 w' (rDisk q d :: rDisk p d :: B) := by
  obtain ⟨⟨bs, bl, bh, vp⟩, h1⟩ := h.dopen
  have hm : CloneMid w0 B p d bs bl bh vp [] w := h1
  obtain ⟨vA, vc, hvp, -, -⟩ : ∃ vA vc, vp = .slice vA d.pending.length vc ∧ d.pending.length ≤ vc ∧ vc ≤ 9223372036854775807 := by
    obtain ⟨ps, hps, h2⟩ := Held.acts_open h1.pull3
    obtain ⟨A, c, hv, r1, r2⟩ := Held.rows_form (l1 := []) h2
    have hl : (ps.map rowOf).length = d.pending.length := by rw [← hps]; simp
    rw [hl] at hv r1
    exact ⟨A, c, hv, r1, r2⟩
  obtain ⟨c0, c1, c2, c4⟩ := hm.cells
  have HM := hid (dmade_any w p (some bs) c1)
  have HV := hid hvp
  have HS := hid hm.drew
  have HK := hid (And.intro hok hpl)
  clear h h1 hok hpl hm hvp
  go_enter Tryz.func44, Tryz.ntmps44
  go_wp2_with (first
    | (go_at_call 51; refine HM.out.mono ?_; rintro e w' ⟨rfl, rfl⟩))
  go_region_held3 (fun w' => w'.cell? ⟨p, 0, none⟩ = some (.int .i64 d.room) ∧ w'.cell? ⟨p, 1, none⟩ = some (.map (some bs)) ∧ w'.cell? ⟨p, 2, none⟩ = some (.map (some bl)) ∧ w'.cell? ⟨p, 4, none⟩ = some (.map (some bh)))
    (first | exact ⟨d0, d1, d2, d4⟩ | exact ⟨c0, c1, c2, c4⟩ | exact ⟨((Mod.refl (fun _ => False) _).alloc _).cell d0 (fun h => h), ((Mod.refl (fun _ => False) _).alloc _).cell d1 (fun h => h), ((Mod.refl (fun _ => False) _).alloc _).cell d2 (fun h => h), ((Mod.refl (fun _ => False) _).alloc _).cell d4 (fun h => h)⟩)
    (first
      | (go_at_call 83; (with_reducible refine (CloneMid.seen HS.out HK.out.1).mono ?_); rintro e w1 ⟨b1, rfl, g⟩; obtain ⟨d0, d1, d2, d4⟩ := g.cells; clear HS; have HS := hid g; clear g)
      | (go_at_call 83; (with_reducible refine (CloneMid.last HS.out HK.out.1).mono ?_); rintro e w1 ⟨b2, rfl, g⟩; obtain ⟨d0, d1, d2, d4⟩ := g.cells; clear HS; have HS := hid g; clear g)
      | (go_at_call 84; (with_reducible refine (CloneMid.hold HS.out).mono ?_); rintro e w1 ⟨b3, rfl, g⟩; obtain ⟨d0, d1, d2, d4⟩ := g.cells; clear HS; have HS := hid g; clear g))
  all_goals
    obtain ⟨ps, hps, hpl, hC⟩ := clone_begin (b1 := b1) (b2 := b2) (b3 := b3) HS.out (by first
      | exact .refl _
      | exact .swap _ _ _
      | exact .cons _ (.swap _ _ _)
      | exact (List.perm_append_comm (l₁ := [_]) (l₂ := [_, _]))
      | exact (List.perm_append_comm (l₁ := [_, _]) (l₂ := [_]))
      | exact ((List.perm_append_comm (l₁ := [_]) (l₂ := [_, _])).trans (.swap _ _ _))
      | exact ((List.perm_append_comm (l₁ := [_, _]) (l₂ := [_])).trans (.swap _ _ _))
      | exact ((List.perm_append_comm (l₁ := [_, _]) (l₂ := [_])).trans (.cons _ (.swap _ _ _)))) HV.out
    have e3 : (w1.alloc (.cells #[.int .i64 d.room, .map (some b1), .map (some b2), .slice none 0 0, .map (some b3)] 43)).cell? ⟨p, 3, none⟩ = some (.slice vA ps.length vc) := clone_cell hC
    have HC := hid hC
    have HP := hid hps
    have hpsl : ps.length ≤ 1000000 := by rw [hpl]; exact HK.out.2
    clear hC hps hpl c0 c1 c2 c4 d0 d1 d2 d4 HS
    generalize w1.alloc (.cells #[.int .i64 d.room, .map (some b1), .map (some b2), .slice none 0 0, .map (some b3)] 43) = w2 at *
    generalize w1.heap.size = q at *
    go_wp2_with fail
    clear e3
    go_loopw [35] (fun iv wr => ∃ k : Nat, k ≤ ps.length ∧ iv = .int .i64 k ∧ CloneAt w0 B p q d b1 b2 b3 bs bl bh vA vc ps k wr) (fun iv _ => ps.length - (intOf iv).toNat)
    case atStart => exact ⟨0, Nat.zero_le _, rfl, HC.out⟩
    case round =>
      obtain ⟨k, hk, rfl, hA⟩ := hrel
      by_cases hlt : k < ps.length
      · obtain ⟨vr, cps, hcps, hh⟩ := hA
        obtain ⟨g, c, hvp, r0, r1, r2, r3⟩ := row4 (Held.pull1 hh) hlt
        obtain ⟨bA, bc, hb, l1, l2⟩ := Held.bytes_form (Held.pull2 hh) (List.getElem_mem hlt)
        have hrd := Held.bytes_at (Held.pull2 hh) (List.getElem_mem hlt)
        injection hvp with hvp _ hvc
        subst hvp hvc
        rw [hb] at r3 hrd
        have hmem : ps[k].1 ∈ d.pending := by rw [← HP.out]; exact List.mem_map_of_mem (List.getElem_mem hlt)
        obtain ⟨-, -, e3⟩ := HK.out.1.deed hmem
        have HT := hid (fun (w : World) (ab : Nat) (t : TypeId) (cs : Array Value) (vr v' : Value) (nA : Option Addr) (nc : Nat) hx => clone_step (w0 := w0) (w := w) (B := B) (p := p) (q := q) (d := d) (b1 := b1) (b2 := b2) (b3 := b3) (bs := bs) (bl := bl) (bh := bh) (vc := vc) (vA := some ⟨g, 0, none⟩) (ps := ps) (ab := ab) (t := t) (cs := cs) (cps := cps) (vr := vr) (v' := v') (nA := nA) (nc := nc) hlt hcps hx)
        have hcl : cps.length = k := by have := congrArg List.length hcps; simpa [Nat.min_eq_left hk] using this
        obtain ⟨rA, rc, hvr, m1, m2⟩ := Held.rows_form (l1 := [_, _, _]) hh
        rw [List.length_map, hcl] at hvr m1
        subst hvr
        have hg0 := (hh.block 99 #[.int .i64 ps[k].1.kind, .string ⟨ps[k].1.name.toArray⟩, .int .i64 ps[k].1.at_, .slice bA ps[k].1.b.length bc])
        obtain ⟨a, ha⟩ : ∃ a, a = ps[k].1 := ⟨_, rfl⟩
        have HV2 := hid ha
        rw [← ha] at r0 r1 r2 r3 hg0 hrd HT l1 e3
        have CC := hid (clone_held hg0 (fun _ => True) _ a.b (hrd.alloc _) (by omega))
        have HCL := hid hcl
        clear hh hb hmem ha hg0 hrd hcps hcl
        unfold sv at r1
        go_wp2_with fail
        refine CC.out.mono ?_
        rintro e w3 ⟨v1, rfl, g3⟩
        obtain ⟨nA, nc, rfl, -, -⟩ := Held.form (l1 := []) g3
        have f3 := (Held.blk (l1 := [_]) g3).frozen 3
        have k3 : w3.cell? ⟨wr.heap.size, 3, none⟩ = some (.slice bA a.b.length bc) := (Held.blk (l1 := [_]) g3).cell rfl
        have g4 := Held.store (l1 := [_]) g3 3 (.slice nA a.b.length nc)
        have HG := hid g4
        clear g3 g4 CC r0 r1 r2 r3
        go_wp2_with fail
        generalize w3.setCell ⟨wr.heap.size, 3, none⟩ (.slice nA a.b.length nc) = w4 at *
        generalize wr.heap.size = ab at *
        clear f3 k3
        have g5 : Held w0 w4 ([rBytes (.slice nA a.b.length nc) a.b, rBlk ab 99 #[.int .i64 a.kind, .string ⟨a.name.toArray⟩, .int .i64 a.at_, .slice nA a.b.length nc], rBlk q 43 (diskCells d ⟨b1, b2, b3, .slice rA k rc⟩), rRows 4 99 (.slice (some ⟨g, 0, none⟩) ps.length vc) (ps.map rowOf), rBig bytesLoc (ps.map bOf)] ++ rRows 4 99 (.slice rA k rc) (cps.map rowOf) :: rBig bytesLoc (cps.map bOf) :: rFiles b1 d.seen :: rFiles b2 d.lasting :: rHeld b3 d.held :: rBlk p 43 (diskCells d ⟨bs, bl, bh, .slice (some ⟨g, 0, none⟩) ps.length vc⟩) :: rFiles bs d.seen :: rFiles bl d.lasting :: rHeld bh d.held :: B) := HG.out
        have x0 : w4.cell? ⟨ab, 0, none⟩ = some (.int .i64 a.kind) := (Held.blk (l1 := [_]) g5).cell rfl
        have x1 : w4.cell? ⟨ab, 1, none⟩ = some (.string ⟨a.name.toArray⟩) := (Held.blk (l1 := [_]) g5).cell rfl
        have x2 : w4.cell? ⟨ab, 2, none⟩ = some (.int .i64 a.at_) := (Held.blk (l1 := [_]) g5).cell rfl
        have x3 : w4.cell? ⟨ab, 3, none⟩ = some (.slice nA a.b.length nc) := (Held.blk (l1 := [_]) g5).cell rfl
        have y3 : w4.cell? ⟨q, 3, none⟩ = some (.slice rA k rc) := (Held.blk (l1 := [_, _]) g5).cell rfl
        have z3 : ∀ o, (w4.alloc o).cell? ⟨q, 3, none⟩ = some (.slice rA k rc) := fun o => ((Mod.refl (fun _ => False) w4).alloc o).cell y3 (fun h => h)
        have HG5 := hid g5
        obtain ⟨iA, iz, is, ib, iy⟩ := info_parts Tryz.infoAct
        have HI := hid (And.intro iz (And.intro is (And.intro ib iy)))
        have HRL := hid (show (cps.map rowOf).length = k by rw [List.length_map]; exact HCL.out)
        clear g5 HG iz is ib iy
        go_region_law (refine step_append_row [rBytes (.slice nA a.b.length nc) a.b, rBlk ab 99 #[.int .i64 a.kind, .string ⟨a.name.toArray⟩, .int .i64 a.at_, .slice nA a.b.length nc], rBlk q 43 _, rRows 4 99 _ _, rBig bytesLoc _] _ rfl _ _ 40 rfl 4 99 iA _ 56 Tryz.underlying40 HI.out.1 HI.out.2.1 HI.out.2.2.1 HI.out.2.2.2 rfl (by decide) (.slice rA k rc) (cps.map rowOf) k HRL.out rfl (HG5.out.step (by repeat (first | exact Mod.refl _ _ | refine Mod.alloc ?_ _ | refine Mod.drew ?_))) _ _ [.int .i64 a.kind, .string ⟨a.name.toArray⟩, .int .i64 a.at_, .slice nA a.b.length nc] rfl rfl (World.news_of_block (heap_alloc_new w4 _)) (by intro u hu; simp only [List.mem_cons, List.not_mem_nil, or_false] at hu; rcases hu with rfl | rfl | rfl | rfl <;> rfl) (by omega) (by unfold maxLen; omega) ?_; intro A' c' w5 p1 p2 g6; have G6 := hid g6; have hb6 := Held.blk (l1 := [_, _]) g6; have hf6 := hb6.frozen 3; have hc6 : w5.cell? ⟨q, 3, none⟩ = some (.slice rA k rc) := hb6.cell rfl; clear g6 hb6)
        all_goals
          have HX := hid (HT.out _ _ _ _ _ _ _ _ G6.out)
          clear hf6 hc6 x0 x1 x2 x3 y3 z3 G6
          generalize w5.setCell ⟨q, 3, none⟩ (.slice A' (k + 1) c') = w6 at *
          go_wp2_with fail
          exact ⟨⟨k + 1, by omega, by simp, HX.out⟩, by show ps.length - ((k : Int) + 1).toNat < ps.length - (k : Int).toNat; omega⟩
      · have hke : k = ps.length := by omega
        have HE := hid (clone_done HP.out hke hA)
        clear hA hke
        go_wp2_with fail
        go_ret
        exact ⟨_, rfl, HE.out⟩
end Go.Proofs.YtbpgclhpbiohpaaGreatDoor

/- A map, in the words of the kit's contracts on maps.Keys (ownsMap). Nothing of the program. -/
namespace Go.Proofs.YtbpgclhpbiohpaaGreatDoor
open Go.RowKit
open Go.Maps (Keyed)

def anyElem : Value → Option (DataW Unit × List MemPlace) := fun _ => some (.lit (.bool true), [])

theorem MapAt.owns {P : Program} {kt : TypeId} {w : World} {b : Nat} {L : List (Value × Value)} (h : MapAt P kt w b L) (hl : L.length ≤ maxLen) :
    ∃ es : List (Lit × DataW Unit), w.ownsMap P kt anyElem b L.length (.map es) ∧ es.length = L.length ∧ (es.map (·.1)).Perm (L.map fun p => (keyOf P kt p.1).getD (.bool false)) := by
  obtain ⟨es0, clk, hb, hi⟩ := h
  have hsz : es0.size = L.length := by
    have := hi.perm.length_eq
    simpa [entL] using this
  refine ⟨((es0.toList.map (Go.WideElems.rg P kt anyElem)).foldr DataW.insert []), ⟨es0, clk, hb, ⟨by omega, ⟨hi.young, hi.stamps, hi.apart⟩, fun x hx => ?_⟩, by omega, rfl⟩, ?_, ?_⟩
  · obtain ⟨l, hk⟩ := hi.keyed x hx
    exact ⟨_, by unfold Go.WideElems.rd anyElem; rw [hk]; rfl⟩
  · rw [Go.length_sorted]; simpa using hsz
  · refine ((Go.WideShapes.sorted_perm _).map _).trans ?_
    have h1 := (hi.perm.map fun p => (keyOf P kt p.1).getD (.bool false))
    refine List.Perm.trans (.of_eq ?_) h1
    unfold entL
    rw [List.map_map, List.map_map]
    refine List.map_congr_left fun x hx => ?_
    obtain ⟨l, hk⟩ := hi.keyed x hx
    simp only [Function.comp, Go.WideElems.rg, Go.WideElems.rd, anyElem, hk, Option.bind_some, Option.map_some, Option.getD_some]
end Go.Proofs.YtbpgclhpbiohpaaGreatDoor
