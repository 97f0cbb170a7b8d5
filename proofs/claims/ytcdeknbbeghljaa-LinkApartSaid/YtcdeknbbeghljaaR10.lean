/- The reference's Carry. -/
import Derived.Test.YtcdeknbbeghljaaR5
import Derived.Deep.QuietTactic
import Derived.Deep.RegionHeld
namespace Go.Proofs.Ytcdeknbbeghljaa
open Go.RowKit
open Link

theorem addr_off (g k : Nat) : (some (⟨g, 0, none⟩ : Addr)).map (·.add k) = some ⟨g, k, none⟩ := by
  show some (Addr.add ⟨g, 0, none⟩ k) = _
  unfold Addr.add
  simp
  exact fun h => h.symm
/-- where a row's cells lie. -/
theorem own_addr {w0 w : World} {l2 : List Res} {e : TypeId} {A : Option Addr} {n c : Nat} {xs : List Value} (h : Held w0 w (rOwn e (.slice A n c) xs :: l2)) : A = none ∧ c = 0 ∧ n = 0 ∨ ∃ g, A = some ⟨g, 0, none⟩ := by
  obtain ⟨F, hF⟩ := Held.get (l1 := []) h
  obtain ⟨⟨-, h2⟩, -⟩ := hF
  rcases h2 with ⟨e1, hz⟩ | ⟨g, cap, cur, e1, -⟩
  · injection e1 with e1 e2 e3
    exact .inl ⟨e1, e3, e2⟩
  · injection e1 with e1 e2 e3
    exact .inr ⟨g, e1⟩
theorem rd_mid {S : Nat → Prop} {w : World} {A : Option Addr} {l : Bytes} {c k kk : Nat} (h : Rd S w (.slice A l.length c) (bytesV l)) (hk : k + kk ≤ l.length) :
    Rd S w (.slice (if c = k then A else A.map (·.add k)) kk (c - k)) (bytesV ((l.drop k).take kk)) := by
  have h1 := h.drop (k := k) (by omega)
  have h2 := h1.take (k := kk) (by omega)
  unfold bytesV at h2 ⊢
  rw [List.map_take, List.map_drop]
  exact h2
theorem carry_end0 {w0 w : World} {B : List Res} {M p : Nat} {n : Net} {z1 z2 : List ((Int × Conn) × Value)} {z : (Int × Conn) × Value} {r : RefIn} {vl : Value} {V : Res} {kk : Nat}
    (hz : (z1 ++ z :: z2).map (·.1) = n.conns) (ha : (n.conns.map (·.1)).Nodup) (hv : z.2 = .pointer (some ⟨r.b, 0, none⟩)) (ho : RefOk M z.1.2 r) (hkk : kk ≤ z.1.2.p0.way.length)
    (h : Held w0 w (V :: rBlk r.b 94 (refCells z.1.1 z.1.2 r) :: rBytes r.v0 r.s0 :: rBytes r.v1 r.s1 :: rBlk p 58 #[vl, .int .i64 n.last] :: rOwn 88 vl ((z1 ++ z :: z2).map (·.2)) :: rBig (refLoc M) z1 :: rBig (refLoc M) z2 :: B)) :
    Held w0 (w.setCell ⟨r.b, 6, none⟩ (.int .i64 ((r.k1 : Int) + (kk : Int)))) (rRef M p (n.put z.1.1 { z.1.2 with p0 := { z.1.2.p0 with way := z.1.2.p0.way.drop kk } }) :: V :: B) := by
  have h0 := Held.store (l1 := [_]) h 6 (.int .i64 ((r.k1 : Int) + (kk : Int)))
  rw [← Int.natCast_add] at h0 ⊢
  have h1 : Held w0 (w.setCell ⟨r.b, 6, none⟩ (.int .i64 ((r.k1 + kk : Nat) : Int))) (V :: rBlk r.b 94 (refCells z.1.1 { z.1.2 with p0 := { z.1.2.p0 with way := z.1.2.p0.way.drop kk } } { r with k1 := r.k1 + kk }) :: rBytes r.v0 r.s0 :: rBytes r.v1 r.s1 :: rBlk p 58 #[vl, .int .i64 n.last] :: rOwn 88 vl ((z1 ++ z :: z2).map (·.2)) :: rBig (refLoc M) z1 :: rBig (refLoc M) z2 :: B) := h0
  exact rback (r := { r with k1 := r.k1 + kk }) (c' := { z.1.2 with p0 := { z.1.2.p0 with way := z.1.2.p0.way.drop kk } }) hz ha hv ⟨ho.w0, by show z.1.2.p0.way.drop kk = r.s1.drop (r.k1 + kk); rw [ho.w1, List.drop_drop], ho.k0, by show r.k1 + kk ≤ r.s1.length; have h := ho.w1; have h2 := congrArg List.length h; rw [List.length_drop] at h2; have := ho.k1; omega, ho.m0, ho.m1⟩ (Held.push7 h1)

theorem carry_end1 {w0 w : World} {B : List Res} {M p : Nat} {n : Net} {z1 z2 : List ((Int × Conn) × Value)} {z : (Int × Conn) × Value} {r : RefIn} {vl : Value} {V : Res} {kk : Nat}
    (hz : (z1 ++ z :: z2).map (·.1) = n.conns) (ha : (n.conns.map (·.1)).Nodup) (hv : z.2 = .pointer (some ⟨r.b, 0, none⟩)) (ho : RefOk M z.1.2 r) (hkk : kk ≤ z.1.2.p1.way.length)
    (h : Held w0 w (V :: rBlk r.b 94 (refCells z.1.1 z.1.2 r) :: rBytes r.v0 r.s0 :: rBytes r.v1 r.s1 :: rBlk p 58 #[vl, .int .i64 n.last] :: rOwn 88 vl ((z1 ++ z :: z2).map (·.2)) :: rBig (refLoc M) z1 :: rBig (refLoc M) z2 :: B)) :
    Held w0 (w.setCell ⟨r.b, 5, none⟩ (.int .i64 ((r.k0 : Int) + (kk : Int)))) (rRef M p (n.put z.1.1 { z.1.2 with p1 := { z.1.2.p1 with way := z.1.2.p1.way.drop kk } }) :: V :: B) := by
  have h0 := Held.store (l1 := [_]) h 5 (.int .i64 ((r.k0 : Int) + (kk : Int)))
  rw [← Int.natCast_add] at h0 ⊢
  have h1 : Held w0 (w.setCell ⟨r.b, 5, none⟩ (.int .i64 ((r.k0 + kk : Nat) : Int))) (V :: rBlk r.b 94 (refCells z.1.1 { z.1.2 with p1 := { z.1.2.p1 with way := z.1.2.p1.way.drop kk } } { r with k0 := r.k0 + kk }) :: rBytes r.v0 r.s0 :: rBytes r.v1 r.s1 :: rBlk p 58 #[vl, .int .i64 n.last] :: rOwn 88 vl ((z1 ++ z :: z2).map (·.2)) :: rBig (refLoc M) z1 :: rBig (refLoc M) z2 :: B) := h0
  exact rback (r := { r with k0 := r.k0 + kk }) (c' := { z.1.2 with p1 := { z.1.2.p1 with way := z.1.2.p1.way.drop kk } }) hz ha hv ⟨by show z.1.2.p1.way.drop kk = r.s0.drop (r.k0 + kk); rw [ho.w0, List.drop_drop], ho.w1, by show r.k0 + kk ≤ r.s0.length; have h := ho.w0; have h2 := congrArg List.length h; rw [List.length_drop] at h2; have := ho.k0; omega, ho.k1, ho.m0, ho.m1⟩ (Held.push7 h1)

set_option maxRecDepth 100000 in
set_option maxHeartbeats 2000000 in
theorem rcarry_held {w0 w : World} {B : List Res} {M p : Nat} {n : Net} (h : Held w0 w (rRef M p n :: B)) (hok : n.Ok) (hlive : n.Live) (hM : M ≤ 1000000000000) (id node most : Int) :
    Calls Try.prog 42 #[.pointer (some ⟨p, 0, none⟩), .int .i64 id, .int .i64 node, .int .i64 most] w fun e w' => ∃ vo, e = .returned (.tuple #[vo, .int .i64 (n.carry id node most).2.2]) ∧ Held w0 w' (rBytes vo (n.carry id node most).2.1 :: rRef M p (n.carry id node most).1 :: B) := by
  obtain ⟨vl, zs, hz, h1⟩ := h.ropen
  have HF := hid (rfind_held h1 id)
  have hg := find_get hz id
  have ha := hok.apart
  cases hf : findZ zs id with
  | none =>
    rw [hf] at hg
    have HC := hid (show n.carry id node most = (n, [], 30) by unfold Net.carry; rw [← hg]; rfl)
    have hfv : findV zs id = .pointer none := by unfold findV; rw [hf]
    rw [hfv] at HF
    have H := hid h
    clear h h1 hz hg hf hfv ha hok
    go_enter Try.func42, Try.ntmps42
    go_wp2_with fail
    refine HF.out.mono ?_
    rintro e w1 ⟨rfl, rfl⟩
    go_wp2_with fail
    go_ret2
    rw [HC.out]
    exact ⟨_, rfl, H.out.own_nil _⟩
  | some z =>
    rw [hf] at hg
    have hget : n.get id = some z.1.2 := by rw [← hg]; rfl
    obtain ⟨hzm, hzid⟩ := findZ_mem hf
    obtain ⟨z1, z2, r, hs, hv, ho, hF⟩ := rfocus h1 hzm
    have hfv : findV zs id = .pointer (some ⟨r.b, 0, none⟩) := by unfold findV; rw [hf]; exact hv
    rw [hfv] at HF
    have hb := Held.blk0 hF
    obtain ⟨A0, k0, hv0, m0, m0'⟩ := Held.form (l1 := [_]) hF
    obtain ⟨A1, k1, hv1, m1, m1'⟩ := Held.form (l1 := [_, _]) hF
    have E0 := hid (rend_any w r.b z.1.1 z.1.2 r node hb)
    have H := hid h
    subst hs
    clear h h1 hg hf hfv hzm
    have hb3 : w.cell? ⟨r.b, 3, none⟩ = some r.v0 := hb.cell rfl
    have hb4 : w.cell? ⟨r.b, 4, none⟩ = some r.v1 := hb.cell rfl
    have hb5 : w.cell? ⟨r.b, 5, none⟩ = some (.int .i64 r.k0) := hb.cell rfl
    have hb6 : w.cell? ⟨r.b, 6, none⟩ = some (.int .i64 r.k1) := hb.cell rfl
    rw [hv0] at hb3
    rw [hv1] at hb4
    rcases Link.end_cases z.1.2 node with he | he | he
    · by_cases hmost : most < 0
      · have HC := hid (show n.carry id node most = (n, [], 1) by unfold Net.carry; rw [hget]; simp only [he]; rw [if_neg (by decide), if_pos hmost])
        have hd : decide (most < 0) = true := by simpa using hmost
        rw [he] at E0
        clear hz hget hzid hv ho hF hb he ha hok hb3 hb4 hb5 hb6 hmost hlive
        go_enter Try.func42, Try.ntmps42
        go_wp2_with fail
        refine HF.out.mono ?_
        rintro e w1 ⟨rfl, rfl⟩
        go_wp2_with fail
        refine E0.out.mono ?_
        rintro e w1 ⟨rfl, rfl⟩
        go_wp2_with fail
        go_ret2
        rw [HC.out]
        exact ⟨_, rfl, H.out.own_nil _⟩
      · have hd : decide (most < 0) = false := by simpa using hmost
        have W0 := hid (way_any w r.b z.1.1 z.1.2 r 1 (by omega) hM hb ho ⟨_, _, hv0, m0, m0'⟩ ⟨_, _, hv1, m1, m1'⟩)
        have q0 : (z.1.2.to (1 - ((1 : Nat) : Int))).way = z.1.2.p0.way := rfl
        rw [q0] at W0
        obtain ⟨wl, hwl'⟩ : ∃ wl : Nat, wl = z.1.2.p0.way.length := ⟨_, rfl⟩
        obtain ⟨kk, hkk⟩ : ∃ kk : Nat, kk = min most.toNat wl := ⟨_, rfl⟩
        have hmin : min most (wl : Int) = (kk : Int) := by rw [hkk]; omega
        have hHC : n.carry id node most = (n.rest id { z.1.2 with p0 := { z.1.2.p0 with way := z.1.2.p0.way.drop kk } }, z.1.2.p0.way.take kk, 0) := by
          unfold Net.carry
          rw [hget]
          simp only [he]
          rw [if_neg (by decide), if_neg hmost, hkk, hwl']
          rfl
        have HC := hid hHC
        have hkle : kk ≤ z.1.2.p0.way.length := by omega
        have hdl : z.1.2.p0.way.length = r.s1.length - r.k1 := by rw [ho.w1, List.length_drop]
        have hk1 := ho.k1
        have hsl : r.s1.length ≤ 1000000000000 := Nat.le_trans ho.m1 hM
        have f1 : (0 : Int) ≤ (r.k1 : Int) + (kk : Int) := by omega
        have f2 : (r.k1 : Int) + (kk : Int) ≤ (k1 : Int) := by omega
        have ft : ((r.k1 : Int) + (kk : Int)).toNat = r.k1 + kk := by omega
        have hwr : IntKind.i64.wrap ((r.k1 : Int) + (kk : Int)) = (r.k1 : Int) + (kk : Int) := by rw [IntKind.wrap_i64]; omega
        have FK := hid (show r.k1 + kk ≤ r.s1.length by omega)
        have HB := hid (fun (w' : World) (V : Res) hx => carry_end0 (w0 := w0) (w := w') (B := B) (p := p) (vl := vl) (V := V) (kk := kk) hz ha hv ho hkle hx)
        have HMID := hid (fun (S : Nat → Prop) (W : World) hx => rd_mid (S := S) (w := W) (A := A1) (l := r.s1) (c := k1) (k := r.k1) (kk := kk) hx (by omega))
        have HWAY := hid ho.w1
        have HE := hid (keep_rest (c' := { z.1.2 with p0 := { z.1.2.p0 with way := z.1.2.p0.way.drop kk } }) hlive ha hget)
        have HFEW := hid (show (n.put id { z.1.2 with p0 := { z.1.2.p0 with way := z.1.2.p0.way.drop kk } }).conns.length ≤ 1000 by have := hok.few; show (List.map _ _).length ≤ 1000; rw [List.length_map]; omega)
        have HF2 := hid hF
        have HVV := hid (And.intro hv0 hv1)
        have HZI := hid hzid
        obtain ⟨iA, iz, is, ib, iy⟩ := info_parts u8_zero
        have HI := hid (And.intro iz (And.intro is (And.intro ib iy)))
        have hadr := own_addr (by have := Held.pull2 hF; rw [hv1] at this; exact this)
        rw [← hwl'] at W0
        rw [he] at E0
        clear hz hget hzid hv ho hF hb he ha hok q0 hwl' H iz is ib iy hv0 hv1 hmost hHC hkle hdl hkk hlive
        go_enter Try.func42, Try.ntmps42
        go_wp2_with fail
        refine HF.out.mono ?_
        rintro e w1 ⟨rfl, rfl⟩
        go_wp2_with fail
        refine E0.out.mono ?_
        rintro e w1 ⟨rfl, rfl⟩
        go_wp2_with fail
        refine W0.out.mono ?_
        rintro e w1 ⟨rfl, m, rfl⟩
        have HGA := hid (held_empty (HF2.out.drewN (m + 1)) 5)
        rcases hadr with ⟨rfl, hz1, hz2⟩ | ⟨g, rfl⟩
        · have HS0 := hid hz2
          have HK0 := hid (show r.k1 = 0 by omega)
          have hkk0 : kk = 0 := by have := FK.out; omega
          subst hkk0
          have HLF := hid (show (bytesV ((r.s1.drop r.k1).take 0)).length = 0 by simp [bytesV])
          subst hz1
          clear f1 f2 ft hwr
          have hwr : IntKind.i64.wrap 0 = 0 := by rfl
          rw [hz2] at hb4
          rw [HK0.out, Int.natCast_zero] at hb6
          have HRD := hid (show Rd (fun _ => True) ((w.drewN (m + 1)).alloc (.cells #[] 5)) (.slice none 0 0) (bytesV ((r.s1.drop r.k1).take 0)) from Rd.nil _ _)
          clear hz2
          go_wp2_with fail
          clear W0 E0 HF
          go_region_held3 (fun w' => w'.cell? ⟨r.b, 4, none⟩ = some (.slice none 0 0) ∧ w'.cell? ⟨r.b, 6, none⟩ = some (.int .i64 (0)))
            (first | exact ⟨d1, d2⟩ | go_keep)
            (first
              | (refine step_append_held (w := (w.drewN (m + 1)).alloc (.cells #[] 5)) [] _ rfl _ _ 30 rfl 5 iA (.int .u8 0) 1 Try.underlying30 HI.out.1 HI.out.2.1 HI.out.2.2.1 HI.out.2.2.2 rfl (.slice (some ⟨w.heap.size, 0, none⟩) 0 0) [] rfl HGA.out (fun _ => True) (.slice none 0 0) (bytesV ((r.s1.drop r.k1).take 0)) rfl HRD.out (bytes_one _) (by have := FK.out; rw [List.length_nil, HLF.out]; omega) (by have := FK.out; rw [List.length_nil, HLF.out]; unfold maxLen; omega) ?_; intro A3 c3 w3 q1 q2 g3; rw [List.nil_append, List.length_nil, Nat.zero_add, HLF.out] at g3; simp only [List.length_nil, HLF.out, Nat.zero_add]; have hb9 := Held.blk0 (Held.pull1 g3); have d1 : w3.cell? ⟨r.b, 4, none⟩ = some r.v1 := hb9.cell rfl; rw [HVV.out.2] at d1; have d2 : w3.cell? ⟨r.b, 6, none⟩ = some (.int .i64 r.k1) := hb9.cell rfl; rw [HS0.out] at d1; rw [HK0.out, Int.natCast_zero] at d2; have d3 := hb9.frozen 6; have G3 := hid g3; clear g3 hb9))
          go_wp2_with fail
          clear d1
          go_region_law (fail)
          have GX := HB.out (w3.drew) (rBytes (.slice A3 0 c3) ((r.s1.drop r.k1).take 0)) (Held.drew G3.out)
          rw [HZI.out] at GX
          rw [show ((r.k1 : Int) + ((0 : Nat) : Int)) = 0 by have := HK0.out; omega] at GX
          have GK := hid (rkeep_held GX hM HFEW.out)
          clear GX G3
          go_wp2_with fail
          refine GK.out.mono ?_
          rintro e w5 ⟨rfl, g5⟩
          have G5 := hid g5
          clear g5 GK
          go_wp2_with fail
          go_ret2
          rw [HC.out]
          have g5 := G5.out
          rw [HE.out, ← HWAY.out] at g5
          exact ⟨_, rfl, Held.pull1 g5⟩
        · by_cases hck : k1 = r.k1
          · subst hck
            have hkk0 : kk = 0 := by have := FK.out; omega
            subst hkk0
            have HLF := hid (show (bytesV ((r.s1.drop r.k1).take 0)).length = 0 by simp [bytesV])
            clear f1 f2 ft hwr
            have hwr : IntKind.i64.wrap (r.k1 : Int) = (r.k1 : Int) := by rw [IntKind.wrap_i64]; omega
            have HRD := hid (show Rd (fun _ => True) ((w.drewN (m + 1)).alloc (.cells #[] 5)) (.slice (some ⟨g, 0, none⟩) 0 0) (bytesV ((r.s1.drop r.k1).take 0)) from ⟨_, 0, rfl, Nat.le_refl _, by simp [maxLen], fun h => absurd rfl h⟩)
            go_wp2_with fail
            clear W0 E0 HF
            go_region_held3 (fun w' => w'.cell? ⟨r.b, 4, none⟩ = some (.slice (some ⟨g, 0, none⟩) r.s1.length r.k1) ∧ w'.cell? ⟨r.b, 6, none⟩ = some (.int .i64 (r.k1)))
              (first | exact ⟨d1, d2⟩ | go_keep)
              (first
                | (refine step_append_held (w := (w.drewN (m + 1)).alloc (.cells #[] 5)) [] _ rfl _ _ 30 rfl 5 iA (.int .u8 0) 1 Try.underlying30 HI.out.1 HI.out.2.1 HI.out.2.2.1 HI.out.2.2.2 rfl (.slice (some ⟨w.heap.size, 0, none⟩) 0 0) [] rfl HGA.out (fun _ => True) (.slice (some ⟨g, 0, none⟩) 0 0) (bytesV ((r.s1.drop r.k1).take 0)) rfl HRD.out (bytes_one _) (by have := FK.out; rw [List.length_nil, HLF.out]; omega) (by have := FK.out; rw [List.length_nil, HLF.out]; unfold maxLen; omega) ?_; intro A3 c3 w3 q1 q2 g3; rw [List.nil_append, List.length_nil, Nat.zero_add, HLF.out] at g3; simp only [List.length_nil, HLF.out, Nat.zero_add]; have hb9 := Held.blk0 (Held.pull1 g3); have d1 : w3.cell? ⟨r.b, 4, none⟩ = some r.v1 := hb9.cell rfl; rw [HVV.out.2] at d1; have d2 : w3.cell? ⟨r.b, 6, none⟩ = some (.int .i64 r.k1) := hb9.cell rfl; have d3 := hb9.frozen 6; have G3 := hid g3; clear g3 hb9))
            go_wp2_with fail
            clear d1
            go_region_law (fail)
            have GX := HB.out (w3.drew) (rBytes (.slice A3 0 c3) ((r.s1.drop r.k1).take 0)) (Held.drew G3.out)
            rw [HZI.out] at GX
            rw [show ((r.k1 : Int) + ((0 : Nat) : Int)) = (r.k1 : Int) by omega] at GX
            have GK := hid (rkeep_held GX hM HFEW.out)
            clear GX G3
            go_wp2_with fail
            refine GK.out.mono ?_
            rintro e w5 ⟨rfl, g5⟩
            have G5 := hid g5
            clear g5 GK
            go_wp2_with fail
            go_ret2
            rw [HC.out]
            have g5 := G5.out
            rw [HE.out, ← HWAY.out] at g5
            exact ⟨_, rfl, Held.pull1 g5⟩
          have HLF := hid (show (bytesV ((r.s1.drop r.k1).take kk)).length = kk by rw [bytesV_length, List.length_take, List.length_drop]; have := FK.out; omega)
          have HRD := hid (show Rd (fun _ => True) ((w.drewN (m + 1)).alloc (.cells #[] 5)) (.slice (some ⟨g, r.k1, none⟩) kk (k1 - r.k1)) (bytesV ((r.s1.drop r.k1).take kk)) from by
            have h := Held.own_rd (l1 := [_, _, _]) HGA.out
            rw [HVV.out.2] at h
            have h2 := HMID.out _ _ h
            rw [if_neg hck, addr_off] at h2
            exact h2)
          go_wp2_with fail
          clear W0 E0 HF
          go_region_held3 (fun w' => w'.cell? ⟨r.b, 4, none⟩ = some (.slice (some ⟨g, 0, none⟩) r.s1.length k1) ∧ w'.cell? ⟨r.b, 6, none⟩ = some (.int .i64 (r.k1)))
            (first | exact ⟨d1, d2⟩ | go_keep)
            (first
              | (refine step_append_held (w := (w.drewN (m + 1)).alloc (.cells #[] 5)) [] _ rfl _ _ 30 rfl 5 iA (.int .u8 0) 1 Try.underlying30 HI.out.1 HI.out.2.1 HI.out.2.2.1 HI.out.2.2.2 rfl (.slice (some ⟨w.heap.size, 0, none⟩) 0 0) [] rfl HGA.out (fun _ => True) (.slice (some ⟨g, r.k1, none⟩) kk (k1 - r.k1)) (bytesV ((r.s1.drop r.k1).take kk)) rfl HRD.out (bytes_one _) (by have := FK.out; rw [List.length_nil, HLF.out]; omega) (by have := FK.out; rw [List.length_nil, HLF.out]; unfold maxLen; omega) ?_; intro A3 c3 w3 q1 q2 g3; rw [List.nil_append, List.length_nil, Nat.zero_add, HLF.out] at g3; simp only [List.length_nil, HLF.out, Nat.zero_add]; have hb9 := Held.blk0 (Held.pull1 g3); have d1 : w3.cell? ⟨r.b, 4, none⟩ = some r.v1 := hb9.cell rfl; rw [HVV.out.2] at d1; have d2 : w3.cell? ⟨r.b, 6, none⟩ = some (.int .i64 r.k1) := hb9.cell rfl; have d3 := hb9.frozen 6; have G3 := hid g3; clear g3 hb9))
          go_wp2_with fail
          clear d1
          go_region_law (fail)
          have GX := HB.out (w3.drew) (rBytes (.slice A3 kk c3) ((r.s1.drop r.k1).take kk)) (Held.drew G3.out)
          rw [HZI.out] at GX
          have GK := hid (rkeep_held GX hM HFEW.out)
          clear GX G3
          go_wp2_with fail
          refine GK.out.mono ?_
          rintro e w5 ⟨rfl, g5⟩
          have G5 := hid g5
          clear g5 GK
          go_wp2_with fail
          go_ret2
          rw [HC.out]
          have g5 := G5.out
          rw [HE.out, ← HWAY.out] at g5
          exact ⟨_, rfl, Held.pull1 g5⟩
    · by_cases hmost : most < 0
      · have HC := hid (show n.carry id node most = (n, [], 1) by unfold Net.carry; rw [hget]; simp only [he]; rw [if_neg (by decide), if_pos hmost])
        have hd : decide (most < 0) = true := by simpa using hmost
        rw [he] at E0
        clear hz hget hzid hv ho hF hb he ha hok hb3 hb4 hb5 hb6 hmost hlive
        go_enter Try.func42, Try.ntmps42
        go_wp2_with fail
        refine HF.out.mono ?_
        rintro e w1 ⟨rfl, rfl⟩
        go_wp2_with fail
        refine E0.out.mono ?_
        rintro e w1 ⟨rfl, rfl⟩
        go_wp2_with fail
        go_ret2
        rw [HC.out]
        exact ⟨_, rfl, H.out.own_nil _⟩
      · have hd : decide (most < 0) = false := by simpa using hmost
        have W0 := hid (way_any w r.b z.1.1 z.1.2 r 0 (by omega) hM hb ho ⟨_, _, hv0, m0, m0'⟩ ⟨_, _, hv1, m1, m1'⟩)
        have q0 : (z.1.2.to (1 - ((0 : Nat) : Int))).way = z.1.2.p1.way := rfl
        rw [q0] at W0
        obtain ⟨wl, hwl'⟩ : ∃ wl : Nat, wl = z.1.2.p1.way.length := ⟨_, rfl⟩
        obtain ⟨kk, hkk⟩ : ∃ kk : Nat, kk = min most.toNat wl := ⟨_, rfl⟩
        have hmin : min most (wl : Int) = (kk : Int) := by rw [hkk]; omega
        have hHC : n.carry id node most = (n.rest id { z.1.2 with p1 := { z.1.2.p1 with way := z.1.2.p1.way.drop kk } }, z.1.2.p1.way.take kk, 0) := by
          unfold Net.carry
          rw [hget]
          simp only [he]
          rw [if_neg (by decide), if_neg hmost, hkk, hwl']
          rfl
        have HC := hid hHC
        have hkle : kk ≤ z.1.2.p1.way.length := by omega
        have hdl : z.1.2.p1.way.length = r.s0.length - r.k0 := by rw [ho.w0, List.length_drop]
        have hk0 := ho.k0
        have hsl : r.s0.length ≤ 1000000000000 := Nat.le_trans ho.m0 hM
        have f1 : (0 : Int) ≤ (r.k0 : Int) + (kk : Int) := by omega
        have f2 : (r.k0 : Int) + (kk : Int) ≤ (k0 : Int) := by omega
        have ft : ((r.k0 : Int) + (kk : Int)).toNat = r.k0 + kk := by omega
        have hwr : IntKind.i64.wrap ((r.k0 : Int) + (kk : Int)) = (r.k0 : Int) + (kk : Int) := by rw [IntKind.wrap_i64]; omega
        have FK := hid (show r.k0 + kk ≤ r.s0.length by omega)
        have HB := hid (fun (w' : World) (V : Res) hx => carry_end1 (w0 := w0) (w := w') (B := B) (p := p) (vl := vl) (V := V) (kk := kk) hz ha hv ho hkle hx)
        have HMID := hid (fun (S : Nat → Prop) (W : World) hx => rd_mid (S := S) (w := W) (A := A0) (l := r.s0) (c := k0) (k := r.k0) (kk := kk) hx (by omega))
        have HWAY := hid ho.w0
        have HE := hid (keep_rest (c' := { z.1.2 with p1 := { z.1.2.p1 with way := z.1.2.p1.way.drop kk } }) hlive ha hget)
        have HFEW := hid (show (n.put id { z.1.2 with p1 := { z.1.2.p1 with way := z.1.2.p1.way.drop kk } }).conns.length ≤ 1000 by have := hok.few; show (List.map _ _).length ≤ 1000; rw [List.length_map]; omega)
        have HF2 := hid hF
        have HVV := hid (And.intro hv0 hv1)
        have HZI := hid hzid
        obtain ⟨iA, iz, is, ib, iy⟩ := info_parts u8_zero
        have HI := hid (And.intro iz (And.intro is (And.intro ib iy)))
        have hadr := own_addr (by have := Held.pull1 hF; rw [hv0] at this; exact this)
        rw [← hwl'] at W0
        rw [he] at E0
        clear hz hget hzid hv ho hF hb he ha hok q0 hwl' H iz is ib iy hv0 hv1 hmost hHC hkle hdl hkk hlive
        go_enter Try.func42, Try.ntmps42
        go_wp2_with fail
        refine HF.out.mono ?_
        rintro e w1 ⟨rfl, rfl⟩
        go_wp2_with fail
        refine E0.out.mono ?_
        rintro e w1 ⟨rfl, rfl⟩
        go_wp2_with fail
        refine W0.out.mono ?_
        rintro e w1 ⟨rfl, m, rfl⟩
        have HGA := hid (held_empty (HF2.out.drewN (m + 1)) 5)
        rcases hadr with ⟨rfl, hz1, hz2⟩ | ⟨g, rfl⟩
        · have HS0 := hid hz2
          have HK0 := hid (show r.k0 = 0 by omega)
          have hkk0 : kk = 0 := by have := FK.out; omega
          subst hkk0
          have HLF := hid (show (bytesV ((r.s0.drop r.k0).take 0)).length = 0 by simp [bytesV])
          subst hz1
          clear f1 f2 ft hwr
          have hwr : IntKind.i64.wrap 0 = 0 := by rfl
          rw [hz2] at hb3
          rw [HK0.out, Int.natCast_zero] at hb5
          have HRD := hid (show Rd (fun _ => True) ((w.drewN (m + 1)).alloc (.cells #[] 5)) (.slice none 0 0) (bytesV ((r.s0.drop r.k0).take 0)) from Rd.nil _ _)
          clear hz2
          go_wp2_with fail
          clear W0 E0 HF
          go_region_held3 (fun w' => w'.cell? ⟨r.b, 3, none⟩ = some (.slice none 0 0) ∧ w'.cell? ⟨r.b, 5, none⟩ = some (.int .i64 (0)))
            (first | exact ⟨d1, d2⟩ | go_keep)
            (first
              | (refine step_append_held (w := (w.drewN (m + 1)).alloc (.cells #[] 5)) [] _ rfl _ _ 30 rfl 5 iA (.int .u8 0) 1 Try.underlying30 HI.out.1 HI.out.2.1 HI.out.2.2.1 HI.out.2.2.2 rfl (.slice (some ⟨w.heap.size, 0, none⟩) 0 0) [] rfl HGA.out (fun _ => True) (.slice none 0 0) (bytesV ((r.s0.drop r.k0).take 0)) rfl HRD.out (bytes_one _) (by have := FK.out; rw [List.length_nil, HLF.out]; omega) (by have := FK.out; rw [List.length_nil, HLF.out]; unfold maxLen; omega) ?_; intro A3 c3 w3 q1 q2 g3; rw [List.nil_append, List.length_nil, Nat.zero_add, HLF.out] at g3; simp only [List.length_nil, HLF.out, Nat.zero_add]; have hb9 := Held.blk0 (Held.pull1 g3); have d1 : w3.cell? ⟨r.b, 3, none⟩ = some r.v0 := hb9.cell rfl; rw [HVV.out.1] at d1; have d2 : w3.cell? ⟨r.b, 5, none⟩ = some (.int .i64 r.k0) := hb9.cell rfl; rw [HS0.out] at d1; rw [HK0.out, Int.natCast_zero] at d2; have d3 := hb9.frozen 5; have G3 := hid g3; clear g3 hb9))
          go_wp2_with fail
          clear d1
          go_region_law (fail)
          have GX := HB.out (w3.drew) (rBytes (.slice A3 0 c3) ((r.s0.drop r.k0).take 0)) (Held.drew G3.out)
          rw [HZI.out] at GX
          rw [show ((r.k0 : Int) + ((0 : Nat) : Int)) = 0 by have := HK0.out; omega] at GX
          have GK := hid (rkeep_held GX hM HFEW.out)
          clear GX G3
          go_wp2_with fail
          refine GK.out.mono ?_
          rintro e w5 ⟨rfl, g5⟩
          have G5 := hid g5
          clear g5 GK
          go_wp2_with fail
          go_ret2
          rw [HC.out]
          have g5 := G5.out
          rw [HE.out, ← HWAY.out] at g5
          exact ⟨_, rfl, Held.pull1 g5⟩
        · by_cases hck : k0 = r.k0
          · subst hck
            have hkk0 : kk = 0 := by have := FK.out; omega
            subst hkk0
            have HLF := hid (show (bytesV ((r.s0.drop r.k0).take 0)).length = 0 by simp [bytesV])
            clear f1 f2 ft hwr
            have hwr : IntKind.i64.wrap (r.k0 : Int) = (r.k0 : Int) := by rw [IntKind.wrap_i64]; omega
            have HRD := hid (show Rd (fun _ => True) ((w.drewN (m + 1)).alloc (.cells #[] 5)) (.slice (some ⟨g, 0, none⟩) 0 0) (bytesV ((r.s0.drop r.k0).take 0)) from ⟨_, 0, rfl, Nat.le_refl _, by simp [maxLen], fun h => absurd rfl h⟩)
            go_wp2_with fail
            clear W0 E0 HF
            go_region_held3 (fun w' => w'.cell? ⟨r.b, 3, none⟩ = some (.slice (some ⟨g, 0, none⟩) r.s0.length r.k0) ∧ w'.cell? ⟨r.b, 5, none⟩ = some (.int .i64 (r.k0)))
              (first | exact ⟨d1, d2⟩ | go_keep)
              (first
                | (refine step_append_held (w := (w.drewN (m + 1)).alloc (.cells #[] 5)) [] _ rfl _ _ 30 rfl 5 iA (.int .u8 0) 1 Try.underlying30 HI.out.1 HI.out.2.1 HI.out.2.2.1 HI.out.2.2.2 rfl (.slice (some ⟨w.heap.size, 0, none⟩) 0 0) [] rfl HGA.out (fun _ => True) (.slice (some ⟨g, 0, none⟩) 0 0) (bytesV ((r.s0.drop r.k0).take 0)) rfl HRD.out (bytes_one _) (by have := FK.out; rw [List.length_nil, HLF.out]; omega) (by have := FK.out; rw [List.length_nil, HLF.out]; unfold maxLen; omega) ?_; intro A3 c3 w3 q1 q2 g3; rw [List.nil_append, List.length_nil, Nat.zero_add, HLF.out] at g3; simp only [List.length_nil, HLF.out, Nat.zero_add]; have hb9 := Held.blk0 (Held.pull1 g3); have d1 : w3.cell? ⟨r.b, 3, none⟩ = some r.v0 := hb9.cell rfl; rw [HVV.out.1] at d1; have d2 : w3.cell? ⟨r.b, 5, none⟩ = some (.int .i64 r.k0) := hb9.cell rfl; have d3 := hb9.frozen 5; have G3 := hid g3; clear g3 hb9))
            go_wp2_with fail
            clear d1
            go_region_law (fail)
            have GX := HB.out (w3.drew) (rBytes (.slice A3 0 c3) ((r.s0.drop r.k0).take 0)) (Held.drew G3.out)
            rw [HZI.out] at GX
            rw [show ((r.k0 : Int) + ((0 : Nat) : Int)) = (r.k0 : Int) by omega] at GX
            have GK := hid (rkeep_held GX hM HFEW.out)
            clear GX G3
            go_wp2_with fail
            refine GK.out.mono ?_
            rintro e w5 ⟨rfl, g5⟩
            have G5 := hid g5
            clear g5 GK
            go_wp2_with fail
            go_ret2
            rw [HC.out]
            have g5 := G5.out
            rw [HE.out, ← HWAY.out] at g5
            exact ⟨_, rfl, Held.pull1 g5⟩
          have HLF := hid (show (bytesV ((r.s0.drop r.k0).take kk)).length = kk by rw [bytesV_length, List.length_take, List.length_drop]; have := FK.out; omega)
          have HRD := hid (show Rd (fun _ => True) ((w.drewN (m + 1)).alloc (.cells #[] 5)) (.slice (some ⟨g, r.k0, none⟩) kk (k0 - r.k0)) (bytesV ((r.s0.drop r.k0).take kk)) from by
            have h := Held.own_rd (l1 := [_, _]) HGA.out
            rw [HVV.out.1] at h
            have h2 := HMID.out _ _ h
            rw [if_neg hck, addr_off] at h2
            exact h2)
          go_wp2_with fail
          clear W0 E0 HF
          go_region_held3 (fun w' => w'.cell? ⟨r.b, 3, none⟩ = some (.slice (some ⟨g, 0, none⟩) r.s0.length k0) ∧ w'.cell? ⟨r.b, 5, none⟩ = some (.int .i64 (r.k0)))
            (first | exact ⟨d1, d2⟩ | go_keep)
            (first
              | (refine step_append_held (w := (w.drewN (m + 1)).alloc (.cells #[] 5)) [] _ rfl _ _ 30 rfl 5 iA (.int .u8 0) 1 Try.underlying30 HI.out.1 HI.out.2.1 HI.out.2.2.1 HI.out.2.2.2 rfl (.slice (some ⟨w.heap.size, 0, none⟩) 0 0) [] rfl HGA.out (fun _ => True) (.slice (some ⟨g, r.k0, none⟩) kk (k0 - r.k0)) (bytesV ((r.s0.drop r.k0).take kk)) rfl HRD.out (bytes_one _) (by have := FK.out; rw [List.length_nil, HLF.out]; omega) (by have := FK.out; rw [List.length_nil, HLF.out]; unfold maxLen; omega) ?_; intro A3 c3 w3 q1 q2 g3; rw [List.nil_append, List.length_nil, Nat.zero_add, HLF.out] at g3; simp only [List.length_nil, HLF.out, Nat.zero_add]; have hb9 := Held.blk0 (Held.pull1 g3); have d1 : w3.cell? ⟨r.b, 3, none⟩ = some r.v0 := hb9.cell rfl; rw [HVV.out.1] at d1; have d2 : w3.cell? ⟨r.b, 5, none⟩ = some (.int .i64 r.k0) := hb9.cell rfl; have d3 := hb9.frozen 5; have G3 := hid g3; clear g3 hb9))
          go_wp2_with fail
          clear d1
          go_region_law (fail)
          have GX := HB.out (w3.drew) (rBytes (.slice A3 kk c3) ((r.s0.drop r.k0).take kk)) (Held.drew G3.out)
          rw [HZI.out] at GX
          have GK := hid (rkeep_held GX hM HFEW.out)
          clear GX G3
          go_wp2_with fail
          refine GK.out.mono ?_
          rintro e w5 ⟨rfl, g5⟩
          have G5 := hid g5
          clear g5 GK
          go_wp2_with fail
          go_ret2
          rw [HC.out]
          have g5 := G5.out
          rw [HE.out, ← HWAY.out] at g5
          exact ⟨_, rfl, Held.pull1 g5⟩
    · have HC := hid (show n.carry id node most = (n, [], 1) by unfold Net.carry; rw [hget]; simp only [he]; rfl)
      rw [he] at E0
      clear hz hget hzid hv ho hF hb he ha hok hb3 hb4 hb5 hb6 hlive
      go_enter Try.func42, Try.ntmps42
      go_wp2_with fail
      refine HF.out.mono ?_
      rintro e w1 ⟨rfl, rfl⟩
      go_wp2_with fail
      refine E0.out.mono ?_
      rintro e w1 ⟨rfl, rfl⟩
      go_wp2_with fail
      go_ret2
      rw [HC.out]
      exact ⟨_, rfl, H.out.own_nil _⟩

end Go.Proofs.Ytcdeknbbeghljaa
