/- The reference's net: the loops that keep some connections: keep, Cut, Drop. -/
import Derived.Test.YtcdeknbbeghljaaR1
import Derived.Test.YtcdeknbbeghljaaR2
namespace Go.Proofs.Ytcdeknbbeghljaa
open Go.RowKit
open Link

theorem Try.infoConnPtr : (Try.prog.info? 88).map (fun i => (i.zero, i.size, i.bytes)) = some (some (.pointer none), 1, 8) := by kernel_rfl
def onlyZ (q : Int × Conn → Bool) (zs : List ((Int × Conn) × Value)) (k : Nat) : List ((Int × Conn) × Value) := (zs.take k).filter fun z => q z.1
section
variable {q : Int × Conn → Bool} {zs : List ((Int × Conn) × Value)} {k : Nat}
theorem onlyZ_yes (hk : k < zs.length) (h : q zs[k].1 = true) : onlyZ q zs (k + 1) = onlyZ q zs k ++ [zs[k]] := by
  unfold onlyZ
  rw [List.take_succ_eq_append_getElem hk, List.filter_append, List.filter_cons, h]
  simp
theorem onlyZ_no (hk : k < zs.length) (h : q zs[k].1 = false) : onlyZ q zs (k + 1) = onlyZ q zs k := by
  unfold onlyZ
  rw [List.take_succ_eq_append_getElem hk, List.filter_append, List.filter_cons, h]
  simp
theorem onlyZ_le : (onlyZ q zs k).length ≤ zs.length := Nat.le_trans (List.length_filter_le _ _) (by rw [List.length_take]; omega)
end
def KeepAt (w0 : World) (B : List Res) (M p : Nat) (last : Int) (q : Int × Conn → Bool) (vl : Value) (zs : List ((Int × Conn) × Value)) (k : Nat) (vr : Value) (w : World) : Prop :=
  Held w0 w (rBlk p 58 #[vl, .int .i64 last] :: rOwn 88 vl (zs.map (·.2)) :: rBig (refLoc M) zs :: rOwn 88 vr ((onlyZ q zs k).map (·.2)) :: B)
section
variable {w0 w : World} {B : List Res} {M p : Nat} {last : Int} {q : Int × Conn → Bool} {vl vr : Value} {zs : List ((Int × Conn) × Value)} {k : Nat} {n : Net}
theorem keep_start (h : Held w0 w (rBlk p 58 #[vl, .int .i64 last] :: rOwn 88 vl (zs.map (·.2)) :: rBig (refLoc M) zs :: B)) : KeepAt w0 B M p last q vl zs 0 (.slice none 0 0) w := by
  have h1 := Held.push3 (h.own_nil 88)
  unfold KeepAt onlyZ
  exact h1
theorem keep_end (hz : zs.map (·.1) = n.conns) (hk : k = zs.length) (h : KeepAt w0 B M p n.last q vl zs k vr w) : Held w0 (w.setCell ⟨p, 0, none⟩ vr) (rRef M p (n.only q) :: B) ∧ w.frozen? ⟨p, 0, none⟩ = false ∧ (onlyZ q zs k).length = (n.only q).conns.length := by
  subst hk
  have h1 := Held.store (l1 := []) h 0 vr
  have h2 := Held.big_sub (refLoc M) (m := onlyZ q zs zs.length) (l1 := [_, _]) (List.filter_sublist.trans (List.take_sublist _ _)) h1
  -- blk, old, big, new
  have h3 := Held.drop0 (Held.pull1 h2)
  have hc : (onlyZ q zs zs.length).map (·.1) = (n.only q).conns := by
    unfold onlyZ Net.only
    rw [List.take_length, ← hz, List.filter_map]
    rfl
  refine ⟨?_, Held.blk0 h |>.frozen 0, by rw [← hc]; simp⟩
  exact Held.rshut (n := n.only q) hc (h3.perm (.cons _ (.swap _ _ _)))
theorem keep_row (h : KeepAt w0 B M p last q vl zs k vr w) (hk : k < zs.length) : ∃ g c r, vl = .slice (some ⟨g, 0, none⟩) zs.length c ∧ zs.length ≤ c ∧ c ≤ 9223372036854775807 ∧ zs[k].2 = .pointer (some ⟨r.b, 0, none⟩) ∧ w.cell? ⟨g, k, none⟩ = some (.pointer (some ⟨r.b, 0, none⟩)) ∧ RefOk M zs[k].1.2 r ∧ Blk w r.b 94 (refCells zs[k].1.1 zs[k].1.2 r) ∧
    (∃ A c, r.v0 = .slice A r.s0.length c ∧ r.s0.length ≤ c ∧ c ≤ 9223372036854775807) ∧ (∃ A c, r.v1 = .slice A r.s1.length c ∧ r.s1.length ≤ c ∧ c ≤ 9223372036854775807) := by
  have hg : (zs.map (·.2))[k]? = some zs[k].2 := by rw [List.getElem?_map, List.getElem?_eq_getElem hk]; rfl
  obtain ⟨g, c, hv, l1, l2, hc⟩ := Held.own_at (Held.pull1 h) hg
  rw [List.length_map] at hv l1
  obtain ⟨r, hr, ho, hb, f0, f1⟩ := ref_at (Held.pull2 h) (List.getElem_mem hk)
  exact ⟨g, c, r, hv, l1, l2, hr, by rw [← hr]; exact hc, ho, hb, f0, f1⟩
theorem keep_yes (hk : k < zs.length) (hq : q zs[k].1 = true) (h : Held w0 w ([rBlk p 58 #[vl, .int .i64 last], rOwn 88 vl (zs.map (·.2)), rBig (refLoc M) zs] ++ rOwn 88 vr ((onlyZ q zs k).map (·.2) ++ [zs[k].2]) :: B)) : KeepAt w0 B M p last q vl zs (k + 1) vr w := by
  unfold KeepAt
  rw [onlyZ_yes hk hq, List.map_append]
  exact h
theorem keep_no (hk : k < zs.length) (hq : q zs[k].1 = false) (h : KeepAt w0 B M p last q vl zs k vr w) : KeepAt w0 B M p last q vl zs (k + 1) vr w := by
  unfold KeepAt
  rw [onlyZ_no hk hq]
  exact h
end
theorem one_ptr (v : Value) (hv : ∃ a, v = .pointer a) : ∀ x ∈ [v], x.oneCell' = true := by
  obtain ⟨a, rfl⟩ := hv
  intro x hx
  rw [List.mem_singleton.1 hx]
  rfl

set_option maxRecDepth 100000 in
set_option maxHeartbeats 2000000 in
theorem rkeep_held {w0 w : World} {B : List Res} {M p : Nat} {n : Net} (h : Held w0 w (rRef M p n :: B)) (hM : M ≤ 1000000000000) (hfew : n.conns.length ≤ 1000) :
    Calls Try.prog 56 #[.pointer (some ⟨p, 0, none⟩)] w fun e w' => e = .returned (.tuple #[]) ∧ Held w0 w' (rRef M p (n.only fun p => !rested p.2) :: B) := by
  obtain ⟨vl, zs, hz, h1⟩ := h.ropen
  have hzl : zs.length ≤ 1000 := by have := congrArg List.length hz; simp at this; omega
  have c0 : w.cell? ⟨p, 0, none⟩ = some vl := (Held.blk0 h1).cell rfl
  obtain ⟨A, c, hv, l1, l2⟩ := Held.own_form0 (Held.pull1 h1)
  rw [List.length_map] at hv l1
  have H0 := hid (keep_start (q := fun p => !rested p.2) h1)
  have HZ := hid hz
  have HV := hid hv
  clear h h1 hz
  subst hv
  clear HV
  generalize hvl0 : Value.slice A zs.length c = vl at *
  have HVL0 := hid hvl0
  subst hvl0
  clear HVL0
  go_enter Try.func56, Try.ntmps56
  go_wp2_with fail
  clear c0
  go_loopw [2, 10] (fun vr iv wr => ∃ k : Nat, k ≤ zs.length ∧ iv = .int .i64 k ∧ KeepAt w0 B M p n.last (fun p => !rested p.2) (.slice A zs.length c) zs k vr wr) (fun _ iv _ => zs.length - (intOf iv).toNat)
  case atStart => exact ⟨0, Nat.zero_le _, rfl, H0.out⟩
  case round =>
    obtain ⟨k, hk, rfl, hh⟩ := hrel
    by_cases hlt : k < zs.length
    · obtain ⟨g, cc, r, hvl, l1, l2, hzp, hcell, ho, hb, f0, f1⟩ := keep_row hh hlt
      have HY := hid (fun (w : World) (vr : Value) hq hx => keep_yes (w0 := w0) (w := w) (B := B) (M := M) (p := p) (last := n.last) (q := (fun p => !rested p.2)) (vl := .slice A zs.length c) (vr := vr) (zs := zs) hlt hq hx)
      have HN := hid (fun (w : World) (vr : Value) hq hx => keep_no (w0 := w0) (w := w) (B := B) (M := M) (p := p) (last := n.last) (q := (fun p => !rested p.2)) (vl := .slice A zs.length c) (vr := vr) (zs := zs) hlt hq hx)
      rw [hzp] at HY
      obtain ⟨rA, rc, hvr, r1, r2⟩ := Held.own_form0 (Held.pull3 hh)
      rw [List.length_map] at hvr r1
      subst hvr
      have hle := onlyZ_le (q := (fun p => !rested p.2)) (zs := zs) (k := k)
      injection hvl with hvA0 _ hcc
      subst hvA0 hcc
      have HH := hid hh
      obtain ⟨zi, zc, hzz⟩ : ∃ zi zc, zs[k].1 = (zi, zc) := ⟨_, _, rfl⟩
      rw [hzz] at HY HN hb ho
      clear hh hzp hzz
      generalize hlr : (onlyZ (fun p => !rested p.2) zs k).length = lr at *
      have HLR := hid hlr
      clear hlr
      have b7 : wr.cell? ⟨r.b, 7, none⟩ = some (.bool zc.p1.shut) := hb.cell rfl
      have b8 : wr.cell? ⟨r.b, 8, none⟩ = some (.bool zc.p0.shut) := hb.cell rfl
      cases hs1 : zc.p1.shut with
      | false =>
        have HQ := hid (show (fun p : Int × Conn => !rested p.2) (zi, zc) = true by simp [rested, hs1])
        rw [hs1] at b7
        obtain ⟨iA, iz, is, ib, iy⟩ := info_parts Try.infoConnPtr
        have HI := hid (And.intro iz (And.intro is (And.intro ib iy)))
        have HRD := hid (Rd.newRow wr 88 [.pointer (some ⟨r.b, 0, none⟩)] (0, 0) (by simp [maxLen]))
        have HG := hid (show Held w0 (wr.alloc (.cells #[.pointer (some ⟨r.b, 0, none⟩)] 88)) ([rBlk p 58 #[_, .int .i64 n.last], rOwn 88 _ (zs.map (·.2)), rBig (refLoc M) zs] ++ rOwn 88 (.slice rA lr rc) ((onlyZ (fun p => !rested p.2) zs k).map (·.2)) :: B) from (HH.out).alloc _)
        clear iz is ib iy
        clear hs1 hb ho f0 f1 b8
        go_wp2_with (at_builtin; refine wpList_append_held (w0 := w0) [rBlk p 58 _, rOwn 88 _ _, rBig (refLoc M) _] _ rfl _ _ 56 rfl 88 iA (.pointer none) 8 Try.underlying56 HI.out.1 HI.out.2.1 HI.out.2.2.1 HI.out.2.2.2 rfl (.slice rA lr rc) ((onlyZ (fun p => !rested p.2) zs k).map (·.2)) rfl HG.out _ (.slice (some ⟨wr.heap.size, 0, none⟩) 1 1) [.pointer (some ⟨r.b, 0, none⟩)] rfl HRD.out (one_ptr _ ⟨_, rfl⟩) (by rw [List.length_map, HLR.out]; simp; omega) (by rw [List.length_map, HLR.out]; unfold maxLen; simp; omega) ?c1)
        case c1 =>
          intro A' c' w2 p1 p2 g2
          simp only [List.length_map, HLR.out, List.length_cons, List.length_nil] at g2 p1 ⊢
          have G2 := hid g2
          clear g2
          go_wp2_with fail
          exact ⟨⟨k + 1, by omega, by simp, HY.out _ _ HQ.out G2.out⟩, by show zs.length - ((k : Int) + 1).toNat < zs.length - (k : Int).toNat; omega⟩
      | true =>
        rw [hs1] at b7
        cases hs0 : zc.p0.shut with
        | false =>
          have HQ := hid (show (fun p : Int × Conn => !rested p.2) (zi, zc) = true by simp [rested, hs0])
          rw [hs0] at b8
          obtain ⟨iA, iz, is, ib, iy⟩ := info_parts Try.infoConnPtr
          have HI := hid (And.intro iz (And.intro is (And.intro ib iy)))
          have HRD := hid (Rd.newRow wr 88 [.pointer (some ⟨r.b, 0, none⟩)] (0, 0) (by simp [maxLen]))
          have HG := hid (show Held w0 (wr.alloc (.cells #[.pointer (some ⟨r.b, 0, none⟩)] 88)) ([rBlk p 58 #[_, .int .i64 n.last], rOwn 88 _ (zs.map (·.2)), rBig (refLoc M) zs] ++ rOwn 88 (.slice rA lr rc) ((onlyZ (fun p => !rested p.2) zs k).map (·.2)) :: B) from (HH.out).alloc _)
          clear iz is ib iy
          clear hs0 hs1 hb ho f0 f1
          go_wp2_with (at_builtin; refine wpList_append_held (w0 := w0) [rBlk p 58 _, rOwn 88 _ _, rBig (refLoc M) _] _ rfl _ _ 56 rfl 88 iA (.pointer none) 8 Try.underlying56 HI.out.1 HI.out.2.1 HI.out.2.2.1 HI.out.2.2.2 rfl (.slice rA lr rc) ((onlyZ (fun p => !rested p.2) zs k).map (·.2)) rfl HG.out _ (.slice (some ⟨wr.heap.size, 0, none⟩) 1 1) [.pointer (some ⟨r.b, 0, none⟩)] rfl HRD.out (one_ptr _ ⟨_, rfl⟩) (by rw [List.length_map, HLR.out]; simp; omega) (by rw [List.length_map, HLR.out]; unfold maxLen; simp; omega) ?c2)
          case c2 =>
            intro A' c' w2 p1 p2 g2
            simp only [List.length_map, HLR.out, List.length_cons, List.length_nil] at g2 p1 ⊢
            have G2 := hid g2
            clear g2
            go_wp2_with fail
            exact ⟨⟨k + 1, by omega, by simp, HY.out _ _ HQ.out G2.out⟩, by show zs.length - ((k : Int) + 1).toNat < zs.length - (k : Int).toNat; omega⟩
        | true =>
          rw [hs0] at b8
          have W0 := hid (way_any wr r.b zi zc r 0 (by omega) hM hb ho f0 f1)
          have W1 := hid (fun m => way_any (wr.drewN m) r.b zi zc r 1 (by omega) hM (hb.drewN m) ho f0 f1)
          have hq0 : (zc.to (1 - ((0 : Nat) : Int))).way = zc.p1.way := rfl
          have hq1 : (zc.to (1 - ((1 : Nat) : Int))).way = zc.p0.way := rfl
          rw [hq0] at W0
          rw [hq1] at W1
          have hb0 : zc.p1.way.length ≤ 1000000000000 := by rw [ho.w0, List.length_drop]; have := ho.m0; omega
          have hb1 : zc.p0.way.length ≤ 1000000000000 := by rw [ho.w1, List.length_drop]; have := ho.m1; omega
          by_cases hsum : 0 < zc.p1.way.length + zc.p0.way.length
          · have HQ := hid (show (fun p : Int × Conn => !rested p.2) (zi, zc) = true by
              show (!rested zc) = true
              unfold rested
              rw [hs0, hs1]
              cases h0 : zc.p0.way with
              | nil =>
                cases h1 : zc.p1.way with
                | nil => rw [h0, h1] at hsum; simp at hsum
                | cons _ _ => simp
              | cons _ _ => simp)
            clear hs0 hs1 hb ho f0 f1 hq0 hq1
            go_wp2_with fail
            refine W0.out.mono ?_
            rintro e wx ⟨rfl, m, rfl⟩
            go_wp2_with fail
            refine (W1.out m).mono ?_
            rintro e wy ⟨rfl, m2, rfl⟩
            clear W0 W1
            rw [World.drewN_drewN]
            obtain ⟨iA, iz, is, ib, iy⟩ := info_parts Try.infoConnPtr
            have HI := hid (And.intro iz (And.intro is (And.intro ib iy)))
            have HRD := hid (Rd.newRow (wr.drewN (m + m2)) 88 [.pointer (some ⟨r.b, 0, none⟩)] (0, 0) (by simp [maxLen]))
            have HG := hid (show Held w0 ((wr.drewN (m + m2)).alloc (.cells #[.pointer (some ⟨r.b, 0, none⟩)] 88)) ([rBlk p 58 #[_, .int .i64 n.last], rOwn 88 _ (zs.map (·.2)), rBig (refLoc M) zs] ++ rOwn 88 (.slice rA lr rc) ((onlyZ (fun p => !rested p.2) zs k).map (·.2)) :: B) from (HH.out.drewN (m + m2)).alloc _)
            clear iz is ib iy
            go_wp2_with (at_builtin; refine wpList_append_held (w0 := w0) [rBlk p 58 _, rOwn 88 _ _, rBig (refLoc M) _] _ rfl _ _ 56 rfl 88 iA (.pointer none) 8 Try.underlying56 HI.out.1 HI.out.2.1 HI.out.2.2.1 HI.out.2.2.2 rfl (.slice rA lr rc) ((onlyZ (fun p => !rested p.2) zs k).map (·.2)) rfl HG.out _ (.slice (some ⟨(wr.drewN (m + m2)).heap.size, 0, none⟩) 1 1) [.pointer (some ⟨r.b, 0, none⟩)] rfl HRD.out (one_ptr _ ⟨_, rfl⟩) (by rw [List.length_map, HLR.out]; simp; omega) (by rw [List.length_map, HLR.out]; unfold maxLen; simp; omega) ?c3)
            case c3 =>
              intro A' c' w2 p1 p2 g2
              simp only [List.length_map, HLR.out, List.length_cons, List.length_nil] at g2 p1 ⊢
              have G2 := hid g2
              clear g2
              go_wp2_with fail
              exact ⟨⟨k + 1, by omega, by simp, HY.out _ _ HQ.out G2.out⟩, by show zs.length - ((k : Int) + 1).toNat < zs.length - (k : Int).toNat; omega⟩
          · have HQ := hid (show (fun p : Int × Conn => !rested p.2) (zi, zc) = false by
              show (!rested zc) = false
              unfold rested
              have h0 : zc.p0.way = [] := List.eq_nil_of_length_eq_zero (by omega)
              have h1 : zc.p1.way = [] := List.eq_nil_of_length_eq_zero (by omega)
              rw [hs0, hs1, h0, h1]
              rfl)
            clear hs0 hs1 hb ho f0 f1 hq0 hq1
            go_wp2_with fail
            refine W0.out.mono ?_
            rintro e wx ⟨rfl, m, rfl⟩
            go_wp2_with fail
            refine (W1.out m).mono ?_
            rintro e wy ⟨rfl, m2, rfl⟩
            clear W0 W1
            rw [World.drewN_drewN]
            have HX := hid (HN.out _ _ HQ.out (HH.out.drewN (m + m2)))
            go_wp2_with fail
            exact ⟨⟨k + 1, by omega, by simp, HX.out⟩, by show zs.length - ((k : Int) + 1).toNat < zs.length - (k : Int).toNat; omega⟩
    · have hke : k = zs.length := by omega
      obtain ⟨rA, rc, hvr, r1, r2⟩ := Held.own_form0 (Held.pull3 hh)
      rw [List.length_map] at hvr r1
      subst hvr
      obtain ⟨e1, e2, e3⟩ := keep_end HZ.out hke hh
      have d0 : wr.cell? ⟨p, 0, none⟩ = some (.slice A zs.length c) := (Held.blk0 hh).cell rfl
      have HE := hid (And.intro e1 e3)
      clear hh hke e1 e3
      go_wp2_with fail
      go_end0
      exact ⟨rfl, HE.out.1⟩
theorem find_get {n : Net} {zs : List ((Int × Conn) × Value)} (hz : zs.map (·.1) = n.conns) (id : Int) : (findZ zs id).map (·.1.2) = n.get id := by
  unfold findZ Net.get
  rw [← hz, List.find?_map]
  simp only [Option.map_map]
  rfl
theorem findZ_mem {zs : List ((Int × Conn) × Value)} {id : Int} {z : (Int × Conn) × Value} (h : findZ zs id = some z) : z ∈ zs ∧ z.1.1 = id := by
  unfold findZ at h
  exact ⟨List.mem_of_find?_eq_some h, by have := List.find?_some h; simpa using this⟩
/-- Find, over a held net. -/
theorem rfind_held {w0 w : World} {B : List Res} {M p : Nat} {last : Int} {vl : Value} {zs : List ((Int × Conn) × Value)} (h : Held w0 w (rBlk p 58 #[vl, .int .i64 last] :: rOwn 88 vl (zs.map (·.2)) :: rBig (refLoc M) zs :: B)) (id : Int) :
    Calls Try.prog 54 #[.pointer (some ⟨p, 0, none⟩), .int .i64 id] w fun e w' => e = .returned (findV zs id) ∧ w = w' :=
  find_any w p vl zs id ((Held.blk0 h).cell rfl) (Held.own_rd (l1 := []) (Held.pull1 h)) fun z hz => by
    obtain ⟨r, hr, -, hb, -, -⟩ := ref_at (Held.pull2 h) hz
    exact ⟨r.b, hr, hb.cell rfl⟩

def Link.Net.cut' (n : Net) (id : Int) : Net × Int := match n.get id with
  | none => (n, 30)
  | some _ => (n.only fun p => p.1 != id, 0)

set_option maxRecDepth 100000 in
set_option maxHeartbeats 2000000 in
theorem rcut_held {w0 w : World} {B : List Res} {M p : Nat} {n : Net} (h : Held w0 w (rRef M p n :: B)) (hfew : n.conns.length ≤ 1000) (id : Int) :
    Calls Try.prog 44 #[.pointer (some ⟨p, 0, none⟩), .int .i64 id] w fun e w' => e = .returned (.int .i64 (n.cut' id).2) ∧ Held w0 w' (rRef M p (n.cut' id).1 :: B) := by
  obtain ⟨vl, zs, hz, h1⟩ := h.ropen
  have hzl : zs.length ≤ 1000 := by have := congrArg List.length hz; simp at this; omega
  have c0 : w.cell? ⟨p, 0, none⟩ = some vl := (Held.blk0 h1).cell rfl
  obtain ⟨A, c, hv, l1, l2⟩ := Held.own_form0 (Held.pull1 h1)
  rw [List.length_map] at hv l1
  have H0 := hid (keep_start (q := fun p => p.1 != id) h1)
  have HZ := hid hz
  have HF := hid (rfind_held h1 id)
  have hg := find_get hz id
  cases hf : findZ zs id with
  | none =>
    rw [hf] at hg
    have HC := hid (show n.cut' id = (n, 30) by unfold Net.cut'; rw [← hg]; rfl)
    have hfv : findV zs id = .pointer none := by unfold findV; rw [hf]
    rw [hfv] at HF
    have HH := hid h
    clear h h1 hz hg hf hfv hv
    go_enter Try.func44, Try.ntmps44
    go_wp2_with fail
    refine HF.out.mono ?_
    rintro e w1 ⟨rfl, rfl⟩
    go_wp2_with fail
    go_ret
    rw [HC.out]
    exact ⟨rfl, HH.out⟩
  | some z =>
    rw [hf] at hg
    have HC := hid (show n.cut' id = (n.only fun p => p.1 != id, 0) by unfold Net.cut'; rw [← hg]; rfl)
    obtain ⟨hzm, -⟩ := findZ_mem hf
    obtain ⟨r0, hr0, -, -, -, -⟩ := ref_at (Held.pull2 h1) hzm
    have hfv : findV zs id = .pointer (some ⟨r0.b, 0, none⟩) := by unfold findV; rw [hf]; exact hr0
    rw [hfv] at HF
    clear h h1 hz hg hf hfv hzm hr0
    subst hv
    go_enter Try.func44, Try.ntmps44
    go_wp2_with fail
    refine HF.out.mono ?_
    rintro e w1 ⟨rfl, rfl⟩
    go_wp2_with fail
    clear c0 HF
    go_loopw [5, 17] (fun vr iv wr => ∃ k : Nat, k ≤ zs.length ∧ iv = .int .i64 k ∧ KeepAt w0 B M p n.last (fun p => p.1 != id) (.slice A zs.length c) zs k vr wr) (fun _ iv _ => zs.length - (intOf iv).toNat)
    case atStart => exact ⟨0, Nat.zero_le _, rfl, H0.out⟩
    case round =>
      obtain ⟨k, hk, rfl, hh⟩ := hrel
      by_cases hlt : k < zs.length
      · obtain ⟨g, cc, r, hvl, l1, l2, hzp, hcell, ho, hb, f0, f1⟩ := keep_row hh hlt
        have HY := hid (fun (w : World) (vr : Value) hq hx => keep_yes (w0 := w0) (w := w) (B := B) (M := M) (p := p) (last := n.last) (q := (fun p => p.1 != id)) (vl := .slice A zs.length c) (vr := vr) (zs := zs) hlt hq hx)
        have HN := hid (fun (w : World) (vr : Value) hq hx => keep_no (w0 := w0) (w := w) (B := B) (M := M) (p := p) (last := n.last) (q := (fun p => p.1 != id)) (vl := .slice A zs.length c) (vr := vr) (zs := zs) hlt hq hx)
        rw [hzp] at HY
        obtain ⟨rA, rc, hvr, r1, r2⟩ := Held.own_form0 (Held.pull3 hh)
        rw [List.length_map] at hvr r1
        subst hvr
        have hle := onlyZ_le (q := (fun p => p.1 != id)) (zs := zs) (k := k)
        injection hvl with hvA0 _ hcc
        subst hvA0 hcc
        have HH := hid hh
        obtain ⟨zi, zc, hzz⟩ : ∃ zi zc, zs[k].1 = (zi, zc) := ⟨_, _, rfl⟩
        rw [hzz] at HY HN hb ho
        clear hh hzp hzz
        generalize hlr : (onlyZ (fun p => p.1 != id) zs k).length = lr at *
        have HLR := hid hlr
        clear hlr
        have b0 : wr.cell? ⟨r.b, 0, none⟩ = some (.int .i64 zi) := hb.cell rfl
        clear hb ho f0 f1
        by_cases hid' : zi = id
        · have HQ := hid (show (fun p : Int × Conn => p.1 != id) (zi, zc) = false by simp [hid'])
          have he1 : (zi != id) = false := by simp [hid']
          clear hid'
          have HX := hid (HN.out _ _ HQ.out (HH.out))
          go_wp2_with fail
          exact ⟨⟨k + 1, by omega, by simp, HX.out⟩, by show zs.length - ((k : Int) + 1).toNat < zs.length - (k : Int).toNat; omega⟩
        · have HQ := hid (show (fun p : Int × Conn => p.1 != id) (zi, zc) = true by simp [hid'])
          have he1 : (zi != id) = true := by simp [hid']
          clear hid'
          obtain ⟨iA, iz, is, ib, iy⟩ := info_parts Try.infoConnPtr
          have HI := hid (And.intro iz (And.intro is (And.intro ib iy)))
          have HRD := hid (Rd.newRow wr 88 [.pointer (some ⟨r.b, 0, none⟩)] (0, 0) (by simp [maxLen]))
          have HG := hid (show Held w0 (wr.alloc (.cells #[.pointer (some ⟨r.b, 0, none⟩)] 88)) ([rBlk p 58 #[_, .int .i64 n.last], rOwn 88 _ (zs.map (·.2)), rBig (refLoc M) zs] ++ rOwn 88 (.slice rA lr rc) ((onlyZ (fun p => p.1 != id) zs k).map (·.2)) :: B) from (HH.out).alloc _)
          clear iz is ib iy
          go_wp2_with (at_builtin; refine wpList_append_held (w0 := w0) [rBlk p 58 _, rOwn 88 _ _, rBig (refLoc M) _] _ rfl _ _ 56 rfl 88 iA (.pointer none) 8 Try.underlying56 HI.out.1 HI.out.2.1 HI.out.2.2.1 HI.out.2.2.2 rfl (.slice rA lr rc) ((onlyZ (fun p => p.1 != id) zs k).map (·.2)) rfl HG.out _ (.slice (some ⟨wr.heap.size, 0, none⟩) 1 1) [.pointer (some ⟨r.b, 0, none⟩)] rfl HRD.out (one_ptr _ ⟨_, rfl⟩) (by rw [List.length_map, HLR.out]; simp; omega) (by rw [List.length_map, HLR.out]; unfold maxLen; simp; omega) ?c1)
          case c1 =>
            intro A' c' w2 p1 p2 g2
            simp only [List.length_map, HLR.out, List.length_cons, List.length_nil] at g2 p1 ⊢
            have G2 := hid g2
            clear g2
            go_wp2_with fail
            exact ⟨⟨k + 1, by omega, by simp, HY.out _ _ HQ.out G2.out⟩, by show zs.length - ((k : Int) + 1).toNat < zs.length - (k : Int).toNat; omega⟩
      · have hke : k = zs.length := by omega
        obtain ⟨rA, rc, hvr, r1, r2⟩ := Held.own_form0 (Held.pull3 hh)
        rw [List.length_map] at hvr r1
        subst hvr
        obtain ⟨e1, e2, e3⟩ := keep_end HZ.out hke hh
        have d0 : wr.cell? ⟨p, 0, none⟩ = some (.slice A zs.length c) := (Held.blk0 hh).cell rfl
        have HE := hid (And.intro e1 e3)
        clear hh hke e1 e3
        go_wp2_with fail
        go_ret
        rw [HC.out]
        exact ⟨rfl, HE.out.1⟩

set_option maxRecDepth 100000 in
set_option maxHeartbeats 2000000 in
theorem rdrop_held {w0 w : World} {B : List Res} {M p : Nat} {n : Net} (h : Held w0 w (rRef M p n :: B)) (hfew : n.conns.length ≤ 1000) (node : Int) :
    Calls Try.prog 27 #[.pointer (some ⟨p, 0, none⟩), .int .i64 node] w fun e w' => e = .returned (.int .i64 (n.drop node).2) ∧ Held w0 w' (rRef M p (n.drop node).1 :: B) := by
  obtain ⟨vl, zs, hz, h1⟩ := h.ropen
  have hzl : zs.length ≤ 1000 := by have := congrArg List.length hz; simp at this; omega
  have c0 : w.cell? ⟨p, 0, none⟩ = some vl := (Held.blk0 h1).cell rfl
  obtain ⟨A, c, hv, l1, l2⟩ := Held.own_form0 (Held.pull1 h1)
  rw [List.length_map] at hv l1
  have H0 := hid (keep_start (q := fun p => p.2.end_ node == -1) h1)
  have HZ := hid hz
  have HC := hid (show (n.drop node).2 = (zs.length : Int) - ((onlyZ (fun p => p.2.end_ node == -1) zs zs.length).length : Int) by
    have h1 : (onlyZ (fun p => p.2.end_ node == -1) zs zs.length).map (·.1) = (n.only fun p => p.2.end_ node == -1).conns := by
      unfold onlyZ Net.only
      rw [List.take_length, ← hz, List.filter_map]
      rfl
    have h2 : (onlyZ (fun p => p.2.end_ node == -1) zs zs.length).length = (n.only fun p => p.2.end_ node == -1).conns.length := by rw [← h1]; simp
    have h3 : zs.length = n.conns.length := by rw [← hz]; simp
    rw [h2, h3]
    rfl)
  clear h h1 hz
  subst hv
  go_enter Try.func27, Try.ntmps27
  go_wp2_with fail
  clear c0
  go_loopw [5, 14] (fun vr iv wr => ∃ k : Nat, k ≤ zs.length ∧ iv = .int .i64 k ∧ KeepAt w0 B M p n.last (fun p => p.2.end_ node == -1) (.slice A zs.length c) zs k vr wr) (fun _ iv _ => zs.length - (intOf iv).toNat)
  case atStart => exact ⟨0, Nat.zero_le _, rfl, H0.out⟩
  case round =>
    obtain ⟨k, hk, rfl, hh⟩ := hrel
    by_cases hlt : k < zs.length
    · obtain ⟨g, cc, r, hvl, l1, l2, hzp, hcell, ho, hb, f0, f1⟩ := keep_row hh hlt
      have HY := hid (fun (w : World) (vr : Value) hq hx => keep_yes (w0 := w0) (w := w) (B := B) (M := M) (p := p) (last := n.last) (q := (fun p => p.2.end_ node == -1)) (vl := .slice A zs.length c) (vr := vr) (zs := zs) hlt hq hx)
      have HN := hid (fun (w : World) (vr : Value) hq hx => keep_no (w0 := w0) (w := w) (B := B) (M := M) (p := p) (last := n.last) (q := (fun p => p.2.end_ node == -1)) (vl := .slice A zs.length c) (vr := vr) (zs := zs) hlt hq hx)
      rw [hzp] at HY
      obtain ⟨rA, rc, hvr, r1, r2⟩ := Held.own_form0 (Held.pull3 hh)
      rw [List.length_map] at hvr r1
      subst hvr
      have hle := onlyZ_le (q := (fun p => p.2.end_ node == -1)) (zs := zs) (k := k)
      injection hvl with hvA0 _ hcc
      subst hvA0 hcc
      have HH := hid hh
      obtain ⟨zi, zc, hzz⟩ : ∃ zi zc, zs[k].1 = (zi, zc) := ⟨_, _, rfl⟩
      rw [hzz] at HY HN hb ho
      clear hh hzp hzz
      generalize hlr : (onlyZ (fun p => p.2.end_ node == -1) zs k).length = lr at *
      have HLR := hid hlr
      clear hlr
      have E0 := hid (rend_any wr r.b zi zc r node hb)
      clear hb ho f0 f1
      by_cases hend : zc.end_ node = -1
      · have HQ := hid (show (fun p : Int × Conn => p.2.end_ node == -1) (zi, zc) = true by simp [hend])
        rw [hend] at E0
        clear hend
        go_wp2_with fail
        refine E0.out.mono ?_
        rintro e wx ⟨rfl, rfl⟩
        obtain ⟨iA, iz, is, ib, iy⟩ := info_parts Try.infoConnPtr
        have HI := hid (And.intro iz (And.intro is (And.intro ib iy)))
        have HRD := hid (Rd.newRow wr 88 [.pointer (some ⟨r.b, 0, none⟩)] (0, 0) (by simp [maxLen]))
        have HG := hid (show Held w0 (wr.alloc (.cells #[.pointer (some ⟨r.b, 0, none⟩)] 88)) ([rBlk p 58 #[_, .int .i64 n.last], rOwn 88 _ (zs.map (·.2)), rBig (refLoc M) zs] ++ rOwn 88 (.slice rA lr rc) ((onlyZ (fun p => p.2.end_ node == -1) zs k).map (·.2)) :: B) from (HH.out).alloc _)
        clear iz is ib iy
        go_wp2_with (at_builtin; refine wpList_append_held (w0 := w0) [rBlk p 58 _, rOwn 88 _ _, rBig (refLoc M) _] _ rfl _ _ 56 rfl 88 iA (.pointer none) 8 Try.underlying56 HI.out.1 HI.out.2.1 HI.out.2.2.1 HI.out.2.2.2 rfl (.slice rA lr rc) ((onlyZ (fun p => p.2.end_ node == -1) zs k).map (·.2)) rfl HG.out _ (.slice (some ⟨wr.heap.size, 0, none⟩) 1 1) [.pointer (some ⟨r.b, 0, none⟩)] rfl HRD.out (one_ptr _ ⟨_, rfl⟩) (by rw [List.length_map, HLR.out]; simp; omega) (by rw [List.length_map, HLR.out]; unfold maxLen; simp; omega) ?c1)
        case c1 =>
          intro A' c' w2 p1 p2 g2
          simp only [List.length_map, HLR.out, List.length_cons, List.length_nil] at g2 p1 ⊢
          have G2 := hid g2
          clear g2
          go_wp2_with fail
          exact ⟨⟨k + 1, by omega, by simp, HY.out _ _ HQ.out G2.out⟩, by show zs.length - ((k : Int) + 1).toNat < zs.length - (k : Int).toNat; omega⟩
      · have HQ := hid (show (fun p : Int × Conn => p.2.end_ node == -1) (zi, zc) = false by simp [hend])
        have hge : 0 ≤ zc.end_ node := by have := end_cases zc node; omega
        clear hend
        go_wp2_with fail
        refine E0.out.mono ?_
        rintro e wx ⟨rfl, rfl⟩
        have HX := hid (HN.out _ _ HQ.out (HH.out))
        go_wp2_with fail
        exact ⟨⟨k + 1, by omega, by simp, HX.out⟩, by show zs.length - ((k : Int) + 1).toNat < zs.length - (k : Int).toNat; omega⟩
    · have hke : k = zs.length := by omega
      obtain ⟨rA, rc, hvr, r1, r2⟩ := Held.own_form0 (Held.pull3 hh)
      rw [List.length_map] at hvr r1
      subst hvr
      obtain ⟨e1, e2, e3⟩ := keep_end HZ.out hke hh
      have d0 : wr.cell? ⟨p, 0, none⟩ = some (.slice A zs.length c) := (Held.blk0 hh).cell rfl
      have HE := hid (And.intro e1 e3)
      clear hh e1 e3
      have HKE := hid hke
      clear hke
      have hb1 : (onlyZ (fun p => p.2.end_ node == -1) zs k).length ≤ zs.length := onlyZ_le
      generalize hlr : (onlyZ (fun p => p.2.end_ node == -1) zs k).length = lr at *
      have HLR := hid hlr
      clear hlr
      go_wp2_with fail
      go_ret
      refine ⟨?_, HE.out.1⟩
      rw [HC.out]
      have hx := HLR.out
      rw [HKE.out] at hx
      rw [hx]
      rfl
end Go.Proofs.Ytcdeknbbeghljaa
