/- The reference's Conns. -/
import Derived.Test.YtcdeknbbeghljaaR10
import Derived.Test.YtcdeknbbeghljaaR8
namespace Go.Proofs.Ytcdeknbbeghljaa
open Go.RowKit
open Link

theorem Try.infoInt : (Try.prog.info? 3).map (fun i => (i.zero, i.size, i.bytes)) = some (some (.int .i64 0), 1, 8) := by kernel_rfl
theorem ints_one (l : List Int) : ∀ v ∈ intsV l, v.oneCell' = true := by
  intro v hv
  obtain ⟨x, -, rfl⟩ := List.mem_map.1 hv
  rfl
def idsTo (zs : List ((Int × Conn) × Value)) (k : Nat) : List Int := (zs.take k).map (·.1.1)
theorem idsTo_succ {zs : List ((Int × Conn) × Value)} {k : Nat} (hk : k < zs.length) : idsTo zs (k + 1) = idsTo zs k ++ [zs[k].1.1] := by
  unfold idsTo
  rw [List.take_succ_eq_append_getElem hk, List.map_append]
  rfl
theorem idsTo_length {zs : List ((Int × Conn) × Value)} {k : Nat} (hk : k ≤ zs.length) : (idsTo zs k).length = k := by unfold idsTo; simp; omega
theorem intsV_append (a b : List Int) : intsV (a ++ b) = intsV a ++ intsV b := by simp [intsV]

set_option maxRecDepth 100000 in
set_option maxHeartbeats 2000000 in
theorem rconns_held {w0 w : World} {B : List Res} {M p : Nat} {n : Net} (h : Held w0 w (rRef M p n :: B)) (hfew : n.conns.length ≤ 1000) :
    Calls Try.prog 46 #[.pointer (some ⟨p, 0, none⟩)] w fun e w' => ∃ v, e = .returned v ∧ Held w0 w' (rInts v (n.conns.map (·.1)) :: rRef M p n :: B) := by
  obtain ⟨vl, zs, hz, h1⟩ := h.ropen
  have hzl : zs.length ≤ 1000 := by have := congrArg List.length hz; simp at this; omega
  have c0 : w.cell? ⟨p, 0, none⟩ = some vl := (Held.blk0 h1).cell rfl
  obtain ⟨A, c, hv, l1, l2⟩ := Held.own_form0 (Held.pull1 h1)
  rw [List.length_map] at hv l1
  have H0 := hid (h1.own_nil 3)
  have HZ := hid hz
  subst hv
  clear h h1 hz hfew
  go_enter Try.func46, Try.ntmps46
  go_wp2_with fail
  clear c0
  go_loopw [3, 11] (fun vr iv wr => ∃ k : Nat, k ≤ zs.length ∧ iv = .int .i64 k ∧ Held w0 wr (rOwn 3 vr (intsV (idsTo zs k)) :: rBlk p 58 #[.slice A zs.length c, .int .i64 n.last] :: rOwn 88 (.slice A zs.length c) (zs.map (·.2)) :: rBig (refLoc M) zs :: B)) (fun _ iv _ => zs.length - (intOf iv).toNat)
  case atStart => exact ⟨0, Nat.zero_le _, rfl, H0.out⟩
  case round =>
    obtain ⟨k, hk, rfl, hh⟩ := hrel
    by_cases hlt : k < zs.length
    · obtain ⟨g, cc, hvl, q1, q2, hcell⟩ := Held.own_at (Held.pull2 hh) (k := k) (u := zs[k].2) (by rw [List.getElem?_map, List.getElem?_eq_getElem hlt]; rfl)
      obtain ⟨r, hr, -, hb, -, -⟩ := ref_at (Held.pull3 hh) (List.getElem_mem hlt)
      injection hvl with hA e2 e3
      subst hA e3
      clear e2
      rw [hr] at hcell
      have b0 : wr.cell? ⟨r.b, 0, none⟩ = some (.int .i64 zs[k].1.1) := hb.cell rfl
      obtain ⟨rA, rc, hvr, r1, r2⟩ := Held.own_form0 hh
      rw [intsV_length, idsTo_length hk] at hvr r1
      subst hvr
      have HY := hid (idsTo_succ hlt)
      have HL := hid (show (intsV (idsTo zs k)).length = k by rw [intsV_length, idsTo_length hk])
      have HH := hid hh
      clear hh hb hr q1 q2
      generalize zs[k].1.1 = i at *
      obtain ⟨iA, iz, is, ib, iy⟩ := info_parts Try.infoInt
      have HI := hid (And.intro iz (And.intro is (And.intro ib iy)))
      have HRD := hid (Rd.newRow wr 3 [.int .i64 i] (0, 0) (by simp [maxLen]))
      have HG := hid (HH.out.alloc (.cells #[.int .i64 i] 3))
      clear iz is ib iy
      go_wp2_with (at_builtin; refine wpList_append_held (w0 := w0) [] _ rfl _ _ 44 rfl 3 iA (.int .i64 0) 8 Try.underlying44 HI.out.1 HI.out.2.1 HI.out.2.2.1 HI.out.2.2.2 rfl (.slice rA k rc) (intsV (idsTo zs k)) rfl HG.out _ (.slice (some ⟨wr.heap.size, 0, none⟩) 1 1) [.int .i64 i] rfl HRD.out (by intro x hx; rw [List.mem_singleton.1 hx]; rfl) (by rw [HL.out]; simp; omega) (by rw [HL.out]; unfold maxLen; simp; omega) ?c1)
      case c1 =>
        intro A' c' w2 p1 p2 g2
        simp only [HL.out, List.length_cons, List.length_nil] at g2 p1 ⊢
        have G2 := hid g2
        clear g2
        go_wp2_with fail
        go_roundw
        case rel =>
          refine ⟨k + 1, by omega, by go_num, ?_⟩
          have g2 := G2.out
          rw [HY.out, intsV_append]
          exact g2
        case measure => simp [intOf]; omega
    · have hke : k = zs.length := by omega
      subst hke
      obtain ⟨rA, rc, hvr, r1, r2⟩ := Held.own_form0 hh
      have HH := hid hh
      clear hh
      go_wp2_with fail
      go_ret
      refine ⟨_, rfl, ?_⟩
      have h2 := HH.out
      have e : idsTo zs zs.length = n.conns.map (·.1) := by unfold idsTo; rw [List.take_length, ← HZ.out, List.map_map]; rfl
      rw [e] at h2
      exact Held.pull1 (Held.rshut HZ.out (Held.push3 h2))
end Go.Proofs.Ytcdeknbbeghljaa
