/- The reference's net: one connection in focus; Send, Close, Ends, Waiting, Done. -/
import Derived.Test.YtcdeknbbeghljaaR3
import Derived.Deep.RegionHeld3
import Derived.StillTailTactics
namespace Go.Proofs.Ytcdeknbbeghljaa
open Go.RowKit
open Link

theorem Big.imp {α : Type} {R R' : α → World → List Nat → Prop} (hi : ∀ x w F, R x w F → R' x w F) : ∀ {l : List α} {w : World} {F : List Nat}, Big R l w F → Big R' l w F
  | [], _, _, h => h
  | x :: l, w, F, ⟨F1, F2, h1, h2, e⟩ => ⟨F1, F2, hi x w F1 h1, Big.imp hi h2, e⟩
theorem RefOk.more {M N : Nat} {c : Conn} {r : RefIn} (h : RefOk M c r) (hMN : M ≤ N) : RefOk N c r := ⟨h.w0, h.w1, h.k0, h.k1, Nat.le_trans h.m0 hMN, Nat.le_trans h.m1 hMN⟩
theorem Held.big_more {w0 w : World} {l1 l2 : List Res} {M N : Nat} (hMN : M ≤ N) {zs : List ((Int × Conn) × Value)} (h : Held w0 w (l1 ++ rBig (refLoc M) zs :: l2)) : Held w0 w (l1 ++ rBig (refLoc N) zs :: l2) :=
  Held.turn1 (Rs := [rBig (refLoc M) zs]) (Rs' := [rBig (refLoc N) zs]) h fun F hF nF => by
    obtain ⟨F1, F2, h1, h2, rfl⟩ := hF
    refine ⟨F1 ++ F2, ⟨F1, F2, ?_, h2, rfl⟩, nF, fun _ h => h⟩
    refine Big.imp (fun y w F hy => ?_) (show Big (fun (y : (Int × Conn) × Value) w F => (rRefC M y).holds w F) zs w F1 from h1)
    obtain ⟨r, ⟨hq1, hq2⟩, hr⟩ := hy
    exact ⟨r, ⟨hq1, hq2.more hMN⟩, hr⟩
theorem Held.rmore {w0 w : World} {B : List Res} {M N p : Nat} {n : Net} (hMN : M ≤ N) (h : Held w0 w (rRef M p n :: B)) : Held w0 w (rRef N p n :: B) := by
  obtain ⟨vl, zs, hz, h1⟩ := h.ropen
  exact Held.rshut hz (Held.big_more (l1 := [_, _]) hMN h1)

section
variable {w0 w : World} {B : List Res} {M p : Nat} {n : Net} {vl : Value} {zs : List ((Int × Conn) × Value)} {id : Int} {z : (Int × Conn) × Value}
theorem rfocus (h : Held w0 w (rBlk p 58 #[vl, .int .i64 n.last] :: rOwn 88 vl (zs.map (·.2)) :: rBig (refLoc M) zs :: B)) (hz : z ∈ zs) :
    ∃ z1 z2, ∃ r : RefIn, zs = z1 ++ z :: z2 ∧ z.2 = .pointer (some ⟨r.b, 0, none⟩) ∧ RefOk M z.1.2 r ∧
      Held w0 w (rBlk r.b 94 (refCells z.1.1 z.1.2 r) :: rBytes r.v0 r.s0 :: rBytes r.v1 r.s1 :: rBlk p 58 #[vl, .int .i64 n.last] :: rOwn 88 vl (zs.map (·.2)) :: rBig (refLoc M) z1 :: rBig (refLoc M) z2 :: B) := by
  obtain ⟨z1, z2, hs⟩ := List.append_of_mem hz
  rw [hs] at h
  have h1 := Held.big_split (l1 := [_, _]) (refLoc M) h
  have h2 := Held.big_uncons (l1 := [_, _, _]) (refLoc M) h1
  obtain ⟨r, ⟨hv, ho⟩, h3⟩ := Held.open_some (l1 := [_, _, _]) (q := fun r : RefIn => z.2 = .pointer (some ⟨r.b, 0, none⟩) ∧ RefOk M z.1.2 r) (Rs' := fun r => [rBlk r.b 94 (refCells z.1.1 z.1.2 r), rBytes r.v0 r.s0, rBytes r.v1 r.s1]) h2
  refine ⟨z1, z2, r, hs, hv, ho, ?_⟩
  rw [hs]
  -- p, own, z1, b, v0, v1, z2
  exact Held.pull5 (Held.pull5 (Held.pull5 h3))
theorem rback {z1 z2 : List ((Int × Conn) × Value)} {c' : Conn} {r : RefIn} (hz : (z1 ++ z :: z2).map (·.1) = n.conns) (ha : (n.conns.map (·.1)).Nodup) (hv : z.2 = .pointer (some ⟨r.b, 0, none⟩)) (ho : RefOk M c' r)
    (h : Held w0 w (rBlk r.b 94 (refCells z.1.1 c' r) :: rBytes r.v0 r.s0 :: rBytes r.v1 r.s1 :: rBlk p 58 #[vl, .int .i64 n.last] :: rOwn 88 vl ((z1 ++ z :: z2).map (·.2)) :: rBig (refLoc M) z1 :: rBig (refLoc M) z2 :: B)) :
    Held w0 w (rRef M p (n.put z.1.1 c') :: B) := by
  have h1 := Held.close_some (l1 := []) (q := fun r : RefIn => z.2 = .pointer (some ⟨r.b, 0, none⟩) ∧ RefOk M c' r) (Rs' := fun r => [rBlk r.b 94 (refCells z.1.1 c' r), rBytes r.v0 r.s0, rBytes r.v1 r.s1]) r ⟨hv, ho⟩ h
  have h2 := Held.push3 h1
  have h3 : Held w0 w ([rBlk p 58 #[vl, .int .i64 n.last], rOwn 88 vl ((z1 ++ z :: z2).map (·.2)), rBig (refLoc M) z1] ++ Res.of (refLoc M) ((z.1.1, c'), z.2) :: rBig (refLoc M) z2 :: B) := h2
  have h4 := Held.big_cons (l1 := [_, _, _]) (refLoc M) (x := ((z.1.1, c'), z.2)) h3
  have h5 := Held.big_join (l1 := [_, _]) (refLoc M) h4
  refine Held.rshut (n := n.put z.1.1 c') (zs := z1 ++ ((z.1.1, c'), z.2) :: z2) (vl := vl) ?_ ?_
  · have hs : n.conns = z1.map (·.1) ++ (z.1.1, z.1.2) :: z2.map (·.1) := by rw [← hz]; simp
    rw [put_split hs ha]
    simp
  · have e : (z1 ++ z :: z2).map (·.2) = (z1 ++ ((z.1.1, c'), z.2) :: z2).map (·.2) := by simp
    rw [e] at h5
    exact h5
end

set_option maxRecDepth 100000 in
set_option maxHeartbeats 2000000 in
theorem rends_held {w0 w : World} {B : List Res} {M p : Nat} {n : Net} (h : Held w0 w (rRef M p n :: B)) (id : Int) :
    Calls Try.prog 48 #[.pointer (some ⟨p, 0, none⟩), .int .i64 id] w fun e w' => e = .returned (.tuple #[.int .i64 (n.ends id).1, .int .i64 (n.ends id).2.1, .int .i64 (n.ends id).2.2]) ∧ ∃ m, w' = w.drewN m := by
  obtain ⟨vl, zs, hz, h1⟩ := h.ropen
  have HF := hid (rfind_held h1 id)
  have hg := find_get hz id
  cases hf : findZ zs id with
  | none =>
    rw [hf] at hg
    have HC := hid (show n.ends id = (0, 0, 30) by unfold Net.ends; rw [← hg]; rfl)
    have hfv : findV zs id = .pointer none := by unfold findV; rw [hf]
    rw [hfv] at HF
    clear h h1 hz hg hf hfv
    go_enter Try.func48, Try.ntmps48
    go_wp2_with fail
    refine HF.out.mono ?_
    rintro e w1 ⟨rfl, rfl⟩
    go_wp2_with fail
    go_ret3
    rw [HC.out]
    exact ⟨rfl, 0, rfl⟩
  | some z =>
    rw [hf] at hg
    have hget : n.get id = some z.1.2 := by rw [← hg]; rfl
    obtain ⟨hzm, hzid⟩ := findZ_mem hf
    obtain ⟨r, hv, -, hb, -, -⟩ := ref_at (Held.pull2 h1) hzm
    have hfv : findV zs id = .pointer (some ⟨r.b, 0, none⟩) := by unfold findV; rw [hf]; exact hv
    rw [hfv] at HF
    have b1 : w.cell? ⟨r.b, 1, none⟩ = some (.int .i64 z.1.2.a) := hb.cell rfl
    have b2 : w.cell? ⟨r.b, 2, none⟩ = some (.int .i64 z.1.2.b) := hb.cell rfl
    have HC := hid (show n.ends id = (z.1.2.a, z.1.2.b, 0) by unfold Net.ends; rw [hget])
    generalize z.1.2 = c at *
    clear h h1 hz hg hf hfv hget hzm hzid hv hb
    go_enter Try.func48, Try.ntmps48
    go_wp2_with fail
    refine HF.out.mono ?_
    rintro e w1 ⟨rfl, rfl⟩
    go_wp2_with fail
    go_quiet (fail)
    go_wp2_with fail
    go_ret3
    rw [HC.out]
    exact ⟨rfl, _, rfl⟩

set_option maxRecDepth 100000 in
set_option maxHeartbeats 2000000 in
theorem rwaiting_held {w0 w : World} {B : List Res} {M p : Nat} {n : Net} (h : Held w0 w (rRef M p n :: B)) (hM : M ≤ 1000000000000) (id node : Int) :
    Calls Try.prog 49 #[.pointer (some ⟨p, 0, none⟩), .int .i64 id, .int .i64 node] w fun e w' => e = .returned (.tuple #[.int .i64 (n.waiting id node).1, .int .i64 (n.waiting id node).2]) ∧ ∃ m, w' = w.drewN m := by
  obtain ⟨vl, zs, hz, h1⟩ := h.ropen
  have HF := hid (rfind_held h1 id)
  have hg := find_get hz id
  cases hf : findZ zs id with
  | none =>
    rw [hf] at hg
    have HC := hid (show n.waiting id node = (0, 30) by unfold Net.waiting; rw [← hg]; rfl)
    have hfv : findV zs id = .pointer none := by unfold findV; rw [hf]
    rw [hfv] at HF
    clear h h1 hz hg hf hfv
    go_enter Try.func49, Try.ntmps49
    go_wp2_with fail
    refine HF.out.mono ?_
    rintro e w1 ⟨rfl, rfl⟩
    go_wp2_with fail
    go_ret2
    rw [HC.out]
    exact ⟨rfl, 0, rfl⟩
  | some z =>
    rw [hf] at hg
    have hget : n.get id = some z.1.2 := by rw [← hg]; rfl
    obtain ⟨hzm, hzid⟩ := findZ_mem hf
    obtain ⟨r, hv, ho, hb, f0, f1⟩ := ref_at (Held.pull2 h1) hzm
    have hfv : findV zs id = .pointer (some ⟨r.b, 0, none⟩) := by unfold findV; rw [hf]; exact hv
    rw [hfv] at HF
    have E0 := hid (rend_any w r.b z.1.1 z.1.2 r node hb)
    have W0 := hid (way_any w r.b z.1.1 z.1.2 r 0 (by omega) hM hb ho f0 f1)
    have W1 := hid (way_any w r.b z.1.1 z.1.2 r 1 (by omega) hM hb ho f0 f1)
    have b7 : w.cell? ⟨r.b, 7, none⟩ = some (.bool z.1.2.p1.shut) := hb.cell rfl
    have b8 : w.cell? ⟨r.b, 8, none⟩ = some (.bool z.1.2.p0.shut) := hb.cell rfl
    clear h h1 hz hg hf hfv hzm hzid hv ho hb f0 f1
    generalize z.1.2 = c at *
    have q0 : (c.to (1 - ((0 : Nat) : Int))).way = c.p1.way := rfl
    have q1 : (c.to (1 - ((1 : Nat) : Int))).way = c.p0.way := rfl
    rw [q0] at W0
    rw [q1] at W1
    clear q0 q1
    rcases Link.end_cases c node with he | he | he
    · have HC := hid (show n.waiting id node = ((((c.p0.way.length : Nat) : Int), (0 : Int))) by unfold Net.waiting; rw [hget]; simp only [he]; rfl)
      rw [he] at E0
      clear he hget
      go_enter Try.func49, Try.ntmps49
      go_wp2_with fail
      refine HF.out.mono ?_
      rintro e w1 ⟨rfl, rfl⟩
      go_wp2_with fail
      refine E0.out.mono ?_
      rintro e w1 ⟨rfl, rfl⟩
      go_wp2_with fail
      refine W1.out.mono ?_
      rintro e w1 ⟨rfl, m, rfl⟩
      go_wp2_with fail
      go_ret2
      rw [HC.out]
      exact ⟨rfl, m, rfl⟩
    · have HC := hid (show n.waiting id node = ((((c.p1.way.length : Nat) : Int), (0 : Int))) by unfold Net.waiting; rw [hget]; simp only [he]; rfl)
      rw [he] at E0
      clear he hget
      go_enter Try.func49, Try.ntmps49
      go_wp2_with fail
      refine HF.out.mono ?_
      rintro e w1 ⟨rfl, rfl⟩
      go_wp2_with fail
      refine E0.out.mono ?_
      rintro e w1 ⟨rfl, rfl⟩
      go_wp2_with fail
      refine W0.out.mono ?_
      rintro e w1 ⟨rfl, m, rfl⟩
      go_wp2_with fail
      go_ret2
      rw [HC.out]
      exact ⟨rfl, m, rfl⟩
    · have HC := hid (show n.waiting id node = (0, 1) by unfold Net.waiting; rw [hget]; simp only [he]; rfl)
      rw [he] at E0
      clear he hget
      go_enter Try.func49, Try.ntmps49
      go_wp2_with fail
      refine HF.out.mono ?_
      rintro e w1 ⟨rfl, rfl⟩
      go_wp2_with fail
      refine E0.out.mono ?_
      rintro e w1 ⟨rfl, rfl⟩
      go_wp2_with fail
      go_ret2
      rw [HC.out]
      exact ⟨rfl, 0, rfl⟩

set_option maxRecDepth 100000 in
set_option maxHeartbeats 2000000 in
theorem rdone_held {w0 w : World} {B : List Res} {M p : Nat} {n : Net} (h : Held w0 w (rRef M p n :: B)) (hM : M ≤ 1000000000000) (id node : Int) :
    Calls Try.prog 50 #[.pointer (some ⟨p, 0, none⟩), .int .i64 id, .int .i64 node] w fun e w' => e = .returned (.bool (n.done id node)) ∧ ∃ m, w' = w.drewN m := by
  obtain ⟨vl, zs, hz, h1⟩ := h.ropen
  have HF := hid (rfind_held h1 id)
  have hg := find_get hz id
  cases hf : findZ zs id with
  | none =>
    rw [hf] at hg
    have HC := hid (show n.done id node = true by unfold Net.done; rw [← hg]; rfl)
    have hfv : findV zs id = .pointer none := by unfold findV; rw [hf]
    rw [hfv] at HF
    clear h h1 hz hg hf hfv
    go_enter Try.func50, Try.ntmps50
    go_wp2_with fail
    refine HF.out.mono ?_
    rintro e w1 ⟨rfl, rfl⟩
    go_wp2_with fail
    go_ret
    rw [HC.out]
    exact ⟨rfl, 0, rfl⟩
  | some z =>
    rw [hf] at hg
    have hget : n.get id = some z.1.2 := by rw [← hg]; rfl
    obtain ⟨hzm, hzid⟩ := findZ_mem hf
    obtain ⟨r, hv, ho, hb, f0, f1⟩ := ref_at (Held.pull2 h1) hzm
    have hfv : findV zs id = .pointer (some ⟨r.b, 0, none⟩) := by unfold findV; rw [hf]; exact hv
    rw [hfv] at HF
    have E0 := hid (rend_any w r.b z.1.1 z.1.2 r node hb)
    have W0 := hid (way_any w r.b z.1.1 z.1.2 r 0 (by omega) hM hb ho f0 f1)
    have W1 := hid (way_any w r.b z.1.1 z.1.2 r 1 (by omega) hM hb ho f0 f1)
    have b7 : w.cell? ⟨r.b, 7, none⟩ = some (.bool z.1.2.p1.shut) := hb.cell rfl
    have b8 : w.cell? ⟨r.b, 8, none⟩ = some (.bool z.1.2.p0.shut) := hb.cell rfl
    clear h h1 hz hg hf hfv hzm hzid hv ho hb f0 f1
    generalize z.1.2 = c at *
    have q0 : (c.to (1 - ((0 : Nat) : Int))).way = c.p1.way := rfl
    have q1 : (c.to (1 - ((1 : Nat) : Int))).way = c.p0.way := rfl
    rw [q0] at W0
    rw [q1] at W1
    clear q0 q1
    rcases Link.end_cases c node with he | he | he
    · have HC := hid (show n.done id node = (c.p0.shut && decide (c.p0.way.length = 0)) by unfold Net.done; rw [hget]; simp only [he]; rfl)
      rw [he] at E0
      clear he hget
      cases hs : c.p0.shut with
      | false =>
        rw [hs] at b8
        have HS := hid hs
        clear hs
        go_enter Try.func50, Try.ntmps50
        go_wp2_with fail
        refine HF.out.mono ?_
        rintro e w1 ⟨rfl, rfl⟩
        go_wp2_with fail
        refine E0.out.mono ?_
        rintro e w1 ⟨rfl, rfl⟩
        go_wp2_with fail
        refine E0.out.mono ?_
        rintro e w1 ⟨rfl, rfl⟩
        go_wp2_with fail
        go_ret
        rw [HC.out, HS.out]
        exact ⟨rfl, 0, rfl⟩
      | true =>
        rw [hs] at b8
        have HS := hid hs
        clear hs
        obtain ⟨wl, hwl⟩ : ∃ wl, wl = c.p0.way.length := ⟨_, rfl⟩
        rw [← hwl] at W1
        have HWL := hid hwl
        clear hwl
        go_enter Try.func50, Try.ntmps50
        go_wp2_with fail
        refine HF.out.mono ?_
        rintro e w1 ⟨rfl, rfl⟩
        go_wp2_with fail
        refine E0.out.mono ?_
        rintro e w1 ⟨rfl, rfl⟩
        go_wp2_with fail
        refine E0.out.mono ?_
        rintro e w1 ⟨rfl, rfl⟩
        go_wp2_with fail
        refine W1.out.mono ?_
        rintro e w1 ⟨rfl, m, rfl⟩
        go_wp2_with fail
        go_ret
        rw [HC.out, HS.out]
        refine ⟨?_, m, rfl⟩
        rw [← HWL.out]
        show Ending.returned (.bool _) = _
        congr 2
        cases wl <;> simp <;> omega
    · have HC := hid (show n.done id node = (c.p1.shut && decide (c.p1.way.length = 0)) by unfold Net.done; rw [hget]; simp only [he]; rfl)
      rw [he] at E0
      clear he hget
      cases hs : c.p1.shut with
      | false =>
        rw [hs] at b7
        have HS := hid hs
        clear hs
        go_enter Try.func50, Try.ntmps50
        go_wp2_with fail
        refine HF.out.mono ?_
        rintro e w1 ⟨rfl, rfl⟩
        go_wp2_with fail
        refine E0.out.mono ?_
        rintro e w1 ⟨rfl, rfl⟩
        go_wp2_with fail
        refine E0.out.mono ?_
        rintro e w1 ⟨rfl, rfl⟩
        go_wp2_with fail
        go_ret
        rw [HC.out, HS.out]
        exact ⟨rfl, 0, rfl⟩
      | true =>
        rw [hs] at b7
        have HS := hid hs
        clear hs
        obtain ⟨wl, hwl⟩ : ∃ wl, wl = c.p1.way.length := ⟨_, rfl⟩
        rw [← hwl] at W0
        have HWL := hid hwl
        clear hwl
        go_enter Try.func50, Try.ntmps50
        go_wp2_with fail
        refine HF.out.mono ?_
        rintro e w1 ⟨rfl, rfl⟩
        go_wp2_with fail
        refine E0.out.mono ?_
        rintro e w1 ⟨rfl, rfl⟩
        go_wp2_with fail
        refine E0.out.mono ?_
        rintro e w1 ⟨rfl, rfl⟩
        go_wp2_with fail
        refine W0.out.mono ?_
        rintro e w1 ⟨rfl, m, rfl⟩
        go_wp2_with fail
        go_ret
        rw [HC.out, HS.out]
        refine ⟨?_, m, rfl⟩
        rw [← HWL.out]
        show Ending.returned (.bool _) = _
        congr 2
        cases wl <;> simp <;> omega
    · have HC := hid (show n.done id node = true by unfold Net.done; rw [hget]; simp only [he]; rfl)
      rw [he] at E0
      clear he hget
      go_enter Try.func50, Try.ntmps50
      go_wp2_with fail
      refine HF.out.mono ?_
      rintro e w1 ⟨rfl, rfl⟩
      go_wp2_with fail
      refine E0.out.mono ?_
      rintro e w1 ⟨rfl, rfl⟩
      go_wp2_with fail
      go_ret
      rw [HC.out]
      exact ⟨rfl, 0, rfl⟩

end Go.Proofs.Ytcdeknbbeghljaa
