/- kvstore: a law. (Several texts in one file, by mz.py.) -/
import Derived.Test.YtdbhccehbjhbpaaGreatDoorYE
import Derived.Test.YtdbhccehbjhbpaaGreatDoorYF
import Derived.Test.YtdbhccehbjhbpaaGreatDoorY29
import Derived.Test.YtdbhccehbjhbpaaGreatDoorK19
import Derived.Test.YtdbhccehbjhbpaaGreatDoorKE

/- kvstore's laws: KvstoreAsked. -/
namespace Go.Proofs.YtdbhccehbjhbpaaGreatDoor
open Go.RowKit
open Disk (Dk Dict)
open Slog (Seg recsOf Lg)
open Kv (It KOp Items Asked)

theorem asked_begin : Asked (kst 16777216) [] 0 :=
  ⟨kst_good (Nat.le_refl _), Nat.le_refl _, Nat.le_refl _, rfl, fun _ => rfl, Nat.le_refl _⟩
/-- a commit of the reference. -/
theorem rcommit_held {w0 w : World} {B : List Res} {x k ver : Nat} {wl : List (List UInt8 × It)} (h : RefAt w0 B x wl ver k w) (hk : k < 60) (hver : ver ≤ 60) (hwl : wl.length ≤ 60000) (u : Value) (ops : List KOp) (ho : OpsR w0 B u ops) :
    Calls Tryz.prog 18 #[.pointer (some ⟨x, 0, none⟩), u] w fun e w' => ∃ a b, e = .returned (.tuple #[a, b]) ∧
      ((Kv.goes ver ops → RefAt w0 B x (wl ++ ops.map fun o => (o.key, o.it (ver + 1))) (ver + 1) (k + 1) w') ∧ (¬ Kv.goes ver ops → RefAt w0 B x wl ver (k + 1) w')) := by
  obtain ⟨y, g, syn, n, v, vL, vH, vS, vR, al, ps, hs, sl, rs, hr, hrs, hh⟩ := h
  by_cases hc : Kv.check ops = 0
  · refine (rcommit_good hh hr hrs hk hver hwl u ops ho hc).mono ?_
    rintro e w' ⟨a, b, rfl, hw⟩
    refine ⟨a, b, rfl, ?_⟩
    unfold Went at hw
    by_cases hl : (Kv.enc (ver + 1) ops).length ≤ 65535
    · rw [if_pos hl] at hw
      exact ⟨fun _ => hw, fun hn => absurd ⟨hc, hl⟩ hn⟩
    · rw [if_neg hl] at hw
      exact ⟨fun hn => absurd hn.2 hl, fun _ => hw⟩
  · refine (rcommit_bad hh hr hrs u ops ho hc).mono ?_
    rintro e w' ⟨a, b, rfl, hw⟩
    exact ⟨a, b, rfl, fun hn => absurd hn.1 hc, fun _ => hw⟩

theorem RefAt.drop1 {w0 w : World} {B : List Res} {R Q : Res} {x ver k : Nat} {wl : List (List UInt8 × It)} (h : RefAt w0 (R :: Q :: B) x wl ver k w) : RefAt w0 (R :: B) x wl ver k w := by
  obtain ⟨y, g, syn, n, v, vL, vH, vS, vR, al, ps, hs, sl, rs, hr, hrs, hh⟩ := h
  exact ⟨y, g, syn, n, v, vL, vH, vS, vR, al, ps, hs, sl, rs, hr, hrs, hh.pull10.drop0⟩

set_option maxRecDepth 100000 in
set_option maxHeartbeats 4000000 in
theorem asked_walk (w : World) (v : Value) (ds : List KDo) (hd : Dos (· < w.heap.size) (· < w.heap.size) w v ds) (key : List UInt8) (hkey : key.length ≤ 9223372036854775807) (till : List UInt8) (version : Int) :
    Calls Tryz.prog 4 #[v, sv key, sv till, .int .i64 version] w fun e w' => e = .returned (.bool true) ∧ Below w.heap.size w w' := by
  obtain ⟨A, cc, rfl, hc, hm⟩ := hd.form
  have HS := hid (short_any w _ ds hd)
  have HD := hid hd
  clear hd
  obtain ⟨n, hn⟩ : ∃ n, n = ds.length := ⟨_, rfl⟩
  have HN := hid hn
  rw [← hn] at hc HS ⊢
  clear hn
  have HKEY := hid hkey
  unfold sv
  go_enter Tryz.func4, Tryz.ntmps4
  go_wp2_with fail
  refine HS.out.mono ?_
  rintro e w1 ⟨r, rfl, hr, m1⟩
  have G0 := hid ((Held.begin w).step m1)
  clear m1
  cases r with
  | false =>
    go_wp2_with (first | (go_at_call 10; refine (kawake_any _).mono ?_; rintro e w9 ⟨rfl, m9⟩; have HE := hid (G0.out.step m9); clear m9))
    go_ret
    exact ⟨rfl, HE.out.below⟩
  | true =>
    have hl := (hr rfl).1
    rw [← HN.out] at hl
    clear hr HS
    go_wp2_with fail
    refine (kbegun_held G0.out 16777216 (by decide)).mono ?_
    rintro e w2 ⟨p, sp, rfl, g2⟩
    have HNW := hid (rnew_held g2 16777216 (Nat.le_refl _))
    clear g2 G0
    go_wp2_with fail
    refine HNW.out.mono ?_
    rintro e w3 ⟨y0, rfl, g3⟩
    have HOP := hid (ropen6_none g3)
    clear g3 HNW
    go_wp2_with fail
    refine HOP.out.mono ?_
    rintro e w4 ⟨x, g, ps, rfl, g4⟩
    have G4 := hid (show RefAt w [rKv sp p (kst 16777216)] x [] 0 0 w4 from ⟨_, _, _, 0, _, _, _, _, _, _, _, _, _, _, RefOk.nil.up (fun q hq => by cases hq), rfl, g4⟩)
    clear g4 HOP
    go_wp2_with fail
    go_loopw [48] (fun iv wr => ∃ k : Nat, k ≤ n ∧ iv = .int .i64 k ∧ ∃ s wl, Asked s wl k ∧ RefAt w [rKv sp p s] x wl s.version k wr) (fun iv _ => n - (intOf iv).toNat)
    case atStart => exact ⟨0, Nat.zero_le _, rfl, _, _, asked_begin, G4.out⟩
    case round =>
      clear G4
      obtain ⟨k, hk, rfl, s, wl, hst, hrf⟩ := hrel
      obtain ⟨y, g, syn, n2, v2, vL, vH, vS, vR, al, ps, hs, sl, rs, hr, hrs, hh⟩ := hrf
      have hnx := hst.next
      have hvn := hst.good.next
      have hfw := hst.few
      by_cases hlt : k < n
      · have hlk : k < ds.length := by rw [← HN.out]; exact hlt
        obtain ⟨b1, off, q, hA, -, c0, c1, c2, c3, hops⟩ := HD.out.at hlk
        subst hA
        have hmod := hh.mod
        have d0 := hmod.cell c0 (fun h => h)
        have d1 := hmod.cell c1 (fun h => h)
        have d2 := hmod.cell c2 (fun h => h)
        have d3 := hmod.cell c3 (fun h => h)
        obtain ⟨O, oc, rfl, ho1, ho2⟩ := hops.form
        have hstep := hst.step (k := k) (by omega) ds[k].ops
        generalize ds[k] = dd at *
        have HC := hid (kcommit_held (nameOk_100 w) (hh.pull9.block 32 #[.int .i64 dd.op, .slice O dd.ops.length oc, .slice dd.kA dd.kn dd.kc, .int .i64 dd.tear]).pull1 hst.good (by omega) (by omega) _ dd.ops (hops.opsR _))
        have HRC := hid (fun w1 B1 (g1 : RefAt w B1 x wl s.version k w1) => rcommit_held g1 (by omega) (by omega) (by omega) _ dd.ops (hops.opsR B1))
        have HR := hid (And.intro hr hrs)
        have HSTEP := hid hstep
        have hltn : (k : Int) < (n : Int) := by omega
        obtain ⟨vv, hvv⟩ : ∃ vv, vv = (s.commit dd.ops).2.1 := ⟨_, rfl⟩
        obtain ⟨ee, hee⟩ : ∃ ee, ee = (s.commit dd.ops).2.2 := ⟨_, rfl⟩
        obtain ⟨s', hs'⟩ : ∃ s', s' = (s.commit dd.ops).1 := ⟨_, rfl⟩
        have HSP := hid hs'
        rw [← hvv, ← hee, ← hs'] at HC
        rw [← hs'] at HSTEP
        generalize dd.ops.length = ol at *
        clear hh hmod c0 c1 c2 c3 hops hst hnx hvn hfw hr hrs hstep hvv hee hs'
        go_wp2_with fail
        refine HC.out.mono ?_
        rintro e w5 ⟨rfl, g5⟩
        have y1 : w5.cell? ⟨wr.heap.size, 1, none⟩ = some (.slice O ol oc) := g5.pull1.blk0.cell (i := 1) rfl
        have HRC2 := hid (HRC.out w5 _ ⟨y, g, syn, n2, v2, vL, vH, vS, vR, al, ps, hs, sl, rs, HR.out.1, HR.out.2, g5.pull10.pull10.pull10.pull10.pull10.pull10.pull10.pull10.pull10⟩)
        clear g5 HC HRC
        go_wp2_with fail
        refine HRC2.out.mono ?_
        rintro e w6 ⟨a, b, rfl, hyes, hno⟩
        have HYN := hid (And.intro hyes hno)
        clear HRC2 hyes hno
        go_wp2_with fail
        refine ⟨⟨k + 1, by omega, by congr 1, ?_⟩, by show n - ((k : Int) + 1).toNat < n - (k : Int).toNat; omega⟩
        by_cases hgo : Kv.goes s.version dd.ops
        · obtain ⟨h1, h2⟩ := HSTEP.out.1 hgo
          exact ⟨s', _, h1, by rw [h2]; exact (HYN.out.1 hgo).drop1⟩
        · obtain ⟨h1, h2⟩ := HSTEP.out.2 hgo
          exact ⟨s', _, h1, by rw [h2]; exact (HYN.out.2 hgo).drop1⟩
      · have hltn : ¬ ((k : Int) < (n : Int)) := by omega
        have hkn : k = n := by omega
        subst hkn
        have hget : Kv.get s.items key = Kv.alive (Kv.lastIt wl key) := by rw [Kv.get_alive, hst.last key]
        have HG := hid (fun w1 B1 (g1 : Held w w1 (rKv sp p s :: B1)) => kget_held g1 hst.good.items HKEY.out)
        have HRG := hid (fun w1 B1 (g1 : Held w w1 (rBlk x 102 (rsCells g v2 s.version syn) :: rIts v2 wl :: B1)) => rget_held g1 (by omega) key (fun y hy => (hst.good.items.each key y (by rw [hst.last key]; exact hy)).2.2.2.1))
        rw [← hget] at HRG
        have HSC := hid (fun w1 B1 (g1 : Held w w1 (rKv sp p s :: B1)) => kscan_held g1 hst.good.items (by omega) key till)
        have HRS := hid (fun w1 B1 (g1 : Held w w1 (rBlk x 102 (rsCells g v2 s.version syn) :: rIts v2 wl :: B1)) => rscan_held g1 (by omega) key till)
        have HSI := hid (fun w1 B1 (g1 : Held w w1 (rKv sp p s :: B1)) => ksince_held g1 hst.good.items (by omega) version)
        have HRI := hid (fun w1 B1 (g1 : Held w w1 (rBlk x 102 (rsCells g v2 s.version syn) :: rIts v2 wl :: B1)) => rsince_held g1 (by omega) version)
        have e1 : (Kv.allItems wl).filter (fun p => Kv.inScan key till p.1 p.2) = Kv.scan s.items key till := Kv.items_told hst.good.items.ok hst.last (Kv.inScan key till)
        have e2 : (Kv.allItems wl).filter (fun p => decide (version < (p.2.at_ : Int))) = Kv.since s.items version := Kv.items_told hst.good.items.ok hst.last (fun _ x => decide (version < (x.at_ : Int)))
        rw [e1] at HRS
        rw [e2] at HRI
        generalize Kv.scan s.items key till = l1 at *
        generalize Kv.since s.items version = l2 at *
        obtain ⟨kx, vx, gx, bx, ax, hgv⟩ := getV_form key (Kv.get s.items key)
        rw [hgv] at HG HRG
        have GG := hid hh.pull9
        unfold sv at HG HRG HSC HRS
        clear hh hr hrs hst hnx hvn hfw hget e1 e2 hgv
        go_wp2_with fail
        refine (HG.out _ _ GG.out).mono ?_
        rintro e w5 ⟨rfl, g5⟩
        have g6 := g5.block 41 #[.string kx, .bool gx, .string vx, .int .i64 ax]
        have HRG2 := hid (HRG.out _ _ g6.pull3.pull3)
        clear g5 g6 HG GG HRG
        go_wp2_with fail
        refine HRG2.out.mono ?_
        rintro e w6 ⟨rfl, g7⟩
        have g8 := g7.block 41 #[.string kx, .bool gx, .string vx, .int .i64 ax]
        have p0 := g8.pull3.blk0.cell (i := 0) rfl
        have p1 := g8.pull3.blk0.cell (i := 1) rfl
        have p2 := g8.pull3.blk0.cell (i := 2) rfl
        have p3 := g8.pull3.blk0.cell (i := 3) rfl
        have q0 := g8.blk0.cell (i := 0) rfl
        have q1 := g8.blk0.cell (i := 1) rfl
        have q2 := g8.blk0.cell (i := 2) rfl
        have q3 := g8.blk0.cell (i := 3) rfl
        have HSC2 := hid (HSC.out _ _ g8.pull4)
        clear g7 g8 HRG2 HSC
        go_wp2_with fail
        refine HSC2.out.mono ?_
        rintro e w7 ⟨va, rfl, g9⟩
        obtain ⟨A1, a1, rfl, -, -⟩ := g9.its_form
        have HRS2 := hid (HRS.out _ _ g9.pull4.pull4)
        clear g9 HSC2 HRS p0 p1 p2 p3 q0 q1 q2 q3
        go_wp2_with fail
        refine HRS2.out.mono ?_
        rintro e w8 ⟨vb, rfl, g10⟩
        obtain ⟨A2, a2, rfl, -, -⟩ := g10.its_form
        have HEQ := hid (iequal_any w8 _ _ l1 g10.pull3.its_rd g10.its_rd)
        have G10 := hid g10
        clear g10 HRS2
        go_wp2_with fail
        refine HEQ.out.mono ?_
        rintro e w9 ⟨rfl, m9⟩
        have HSI2 := hid (HSI.out _ _ (G10.out.step m9).pull4)
        clear m9 HEQ G10 HSI
        go_wp2_with fail
        refine HSI2.out.mono ?_
        rintro e w10 ⟨vc, rfl, g11⟩
        obtain ⟨A3, a3, rfl, -, -⟩ := g11.its_form
        have HRI2 := hid (HRI.out _ _ g11.pull4.pull4)
        clear g11 HSI2 HRI
        go_wp2_with fail
        refine HRI2.out.mono ?_
        rintro e w11 ⟨vd, rfl, g12⟩
        obtain ⟨A4, a4, rfl, -, -⟩ := g12.its_form
        have HEQ := hid (iequal_any w11 _ _ l2 g12.pull3.its_rd g12.its_rd)
        have G12 := hid g12
        clear g12 HRI2
        go_wp2_with fail
        refine HEQ.out.mono ?_
        rintro e w12 ⟨rfl, m12⟩
        have G13 := hid (G12.out.step m12)
        clear m12 HEQ G12
        go_wp2_with fail
        refine (kawake_any _).mono ?_
        rintro e w13 ⟨rfl, m13⟩
        have HE := hid (G13.out.step m13)
        clear m13
        go_wp2_with fail
        go_ret
        exact ⟨rfl, HE.out.below⟩
end Go.Proofs.YtdbhccehbjhbpaaGreatDoor

/- KvstoreAsked: the walk over the arguments as they come in. -/
namespace Go.Proofs.YtdbhccehbjhbpaaGreatDoor
open Go.ChangeShapes Go.WideShapes Go.ChangeAt Go.RowKit
set_option maxRecDepth 100000 in
theorem asked_row {H : Type} {enc : TypeId × Value → H} (W : World) (base : Nat) (v0 v1 v2 v3 : Value) {d0 d1 d2 d3 : DataW H} {p0 p1 p2 p3 : List MemPlace}
    (ok0 : Value.okWide Tryz.prog W .any base 22 v0) (h0 : DataW.Trod enc Tryz.prog W 0 (fun _ => true) true 22 v0 d0 p0)
    (ok1 : Value.okWide Tryz.prog W .any base 9 v1) (h1 : DataW.Trod enc Tryz.prog W 0 (fun _ => true) true 9 v1 d1 p1)
    (ok2 : Value.okWide Tryz.prog W .any base 9 v2) (h2 : DataW.Trod enc Tryz.prog W 0 (fun _ => true) true 9 v2 d2 p2)
    (ok3 : Value.okWide Tryz.prog W .any base 3 v3) (h3 : DataW.Trod enc Tryz.prog W 0 (fun _ => true) true 3 v3 d3 p3) :
    Calls Tryz.prog 4 #[v0, v1, v2, v3] W fun e w' => e = .returned (.bool true) ∧ Below W.heap.size W w' := by
  obtain ⟨x0, hx0⟩ := open_dos ok0 h0
  obtain ⟨s1, rfl, -, -, hs1⟩ := Go.ChangeMaps.open_string Tryz.underlying9 ok1 h1
  have hl1 : s1.data.toList.length ≤ 9223372036854775807 := by
    unfold maxLen at hs1
    have : s1.data.toList.length = s1.size := Array.length_toList
    omega
  rw [sv_of s1]
  obtain ⟨s2, rfl, -, -, -⟩ := Go.ChangeMaps.open_string Tryz.underlying9 ok2 h2
  rw [sv_of s2]
  obtain ⟨x3, rfl, -⟩ := open_intR Tryz.underlying3 ok3 h3
  exact asked_walk W v0 x0 hx0 s1.data.toList hl1 s2.data.toList x3
end Go.Proofs.YtdbhccehbjhbpaaGreatDoor
