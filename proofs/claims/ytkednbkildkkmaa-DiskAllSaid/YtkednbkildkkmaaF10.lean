/- disk: Clone. -/
import Derived.Test.YtkednbkildkkmaaF9
namespace Go.Proofs.Ytkednbkildkkmaa
open Go.RowKit
open Disk

def CloneAt (w0 : World) (B : List Res) (p q : Nat) (d : Dk) (b1 b2 b3 bs bl bh : Nat) (vA : Option Addr) (vc : Nat) (ps : List (Deed × Value)) (k : Nat) (w : World) : Prop :=
  ∃ (vr : Value) (cps : List (Deed × Value)), cps.map (·.1) = (ps.take k).map (·.1) ∧
    Held w0 w (rBlk q 52 (diskCells d ⟨b1, b2, b3, vr⟩) :: rRows 4 72 (.slice vA ps.length vc) (ps.map rowOf) :: rBig bytesLoc (ps.map bOf) :: rRows 4 72 vr (cps.map rowOf) :: rBig bytesLoc (cps.map bOf) :: rFiles b1 d.seen :: rFiles b2 d.lasting :: rHeld b3 d.held :: rBlk p 52 (diskCells d ⟨bs, bl, bh, .slice vA ps.length vc⟩) :: rFiles bs d.seen :: rFiles bl d.lasting :: rHeld bh d.held :: B)
section
variable {w0 w : World} {B : List Res} {p q : Nat} {d : Dk} {b1 b2 b3 bs bl bh vc : Nat} {vA : Option Addr} {ps : List (Deed × Value)}
theorem clone_begin {A : List Res} {vp : Value} (h : CloneMid w0 B p d bs bl bh vp A w) (hA : A.Perm [rFiles b1 d.seen, rFiles b2 d.lasting, rHeld b3 d.held]) (hv : vp = .slice vA d.pending.length vc) :
    ∃ ps, ps.map (·.1) = d.pending ∧ ps.length = d.pending.length ∧ CloneAt w0 B p w.heap.size d b1 b2 b3 bs bl bh vA vc ps 0 (w.alloc (.cells #[.int .i64 d.room, .map (some b1), .map (some b2), .slice none 0 0, .map (some b3)] 52)) := by
  have h1 : Held w0 w (rFiles b1 d.seen :: rFiles b2 d.lasting :: rHeld b3 d.held :: rBlk p 52 (diskCells d ⟨bs, bl, bh, vp⟩) :: rFiles bs d.seen :: rFiles bl d.lasting :: rActs vp d.pending :: rHeld bh d.held :: B) := Held.perm h (hA.append_right _)
  obtain ⟨ps, hps, h2⟩ := Held.acts_open h1.pull6
  have hl : ps.length = d.pending.length := by rw [← hps]; simp
  refine ⟨ps, hps, hl, .slice none 0 0, [], by simp, ?_⟩
  -- rows, big, f1, f2, h3, blk, fs, fl, h
  have h3 := Held.big_nil bytesLoc (h2.rows_nil 4 72)
  -- bignil, rowsnil, rows, big, ..
  have h4 := h3.pull1.pull3.pull3
  have h5 := h4.block 52 (diskCells d ⟨b1, b2, b3, .slice none 0 0⟩)
  rw [hv, ← hl] at h5
  exact h5
theorem clone_cell {k : Nat} (h : CloneAt w0 B p q d b1 b2 b3 bs bl bh vA vc ps k w) : w.cell? ⟨p, 3, none⟩ = some (.slice vA ps.length vc) := by
  obtain ⟨vr, cps, hc, h⟩ := h
  exact (Held.blk (l1 := [_, _, _, _, _, _, _, _]) h).cell rfl
theorem clone_done (hps : ps.map (·.1) = d.pending) {k : Nat} (hk : k = ps.length) (h : CloneAt w0 B p q d b1 b2 b3 bs bl bh vA vc ps k w) : Held w0 w (rDisk q d :: rDisk p d :: B) := by
  obtain ⟨vr, cps, hc, h⟩ := h
  rw [hk, List.take_length, hps] at hc
  -- blkq, rows, big, crows, cbig, f1, f2, h3, blkp, fs, fl, h
  have h1 := Held.acts_shut (h.pull4.pull4)
  rw [hc] at h1
  -- actsq, blkq, rows, big, f1, f2, h3, blkp, fs, fl, h
  have h2 := Held.acts_shut (h1.pull3.pull3)
  rw [hps] at h2
  -- actsp, actsq, blkq, f1, f2, h3, blkp, fs, fl, h
  have h3 := Held.dshut (d := d) ⟨bs, bl, bh, .slice vA ps.length vc⟩ (h2.pull9.pull1.pull9.pull9.pull9)
  -- diskp, h.. 
  have h4 := Held.dshut (d := d) ⟨b1, b2, b3, vr⟩ ((h3.pull5.pull2.pull5.pull5.pull5))
  exact h4
theorem clone_step {ab : Nat} {t : TypeId} {cs : Array Value} {cps : List (Deed × Value)} {vr v' : Value} {k : Nat} {nA : Option Addr} {nc : Nat} (hk : k < ps.length) (hc : cps.map (·.1) = (ps.take k).map (·.1))
    (h : Held w0 w ([rBytes (.slice nA ps[k].1.b.length nc) ps[k].1.b, rBlk ab t cs, rBlk q 52 (diskCells d ⟨b1, b2, b3, vr⟩), rRows 4 72 (.slice vA ps.length vc) (ps.map rowOf), rBig bytesLoc (ps.map bOf)] ++ rRows 4 72 v' (cps.map rowOf ++ [[.int .i64 ps[k].1.kind, .string ⟨ps[k].1.name.toArray⟩, .int .i64 ps[k].1.at_, .slice nA ps[k].1.b.length nc]]) :: rBig bytesLoc (cps.map bOf) :: rFiles b1 d.seen :: rFiles b2 d.lasting :: rHeld b3 d.held :: rBlk p 52 (diskCells d ⟨bs, bl, bh, .slice vA ps.length vc⟩) :: rFiles bs d.seen :: rFiles bl d.lasting :: rHeld bh d.held :: B)) :
    CloneAt w0 B p q d b1 b2 b3 bs bl bh vA vc ps (k + 1) (w.setCell ⟨q, 3, none⟩ v') := by
  have h1 := Held.drop0 (Held.pull1 h)
  -- bytes, blkq, rows, big, crows, cbig, ..
  have h2 := Held.store (l1 := [_]) h1 3 v'
  have e : (diskCells d ⟨b1, b2, b3, vr⟩).setIfInBounds 3 v' = diskCells d ⟨b1, b2, b3, v'⟩ := by simp [diskCells]
  rw [e] at h2
  refine ⟨v', cps ++ [(ps[k].1, .slice nA ps[k].1.b.length nc)], ?_, ?_⟩
  · rw [List.map_append, hc, List.take_succ_eq_append_getElem hk, List.map_append]
    rfl
  · have h3 := Held.push1 (Held.pull5 h2)
    -- bytes, cbig, blkq, rows, big, crows, ..
    have h4 := Held.big_snoc (A := []) bytesLoc (l := cps.map bOf) (x := (.slice nA ps[k].1.b.length nc, ps[k].1.b)) (h3.pull1)
    have h5 := Held.push4 h4
    rw [List.map_append, List.map_append]
    exact h5
end

set_option maxRecDepth 100000 in
set_option maxHeartbeats 4000000 in
theorem clone_disk {w0 w : World} {B : List Res} {p : Nat} {d : Dk} (h : Held w0 w (rDisk p d :: B)) (hok : d.Ok) (hpl : d.pending.length ≤ 1000000) :
    Calls Try.prog 21 #[.pointer (some ⟨p, 0, none⟩)] w fun e w' => ∃ q, e = .returned (.pointer (some ⟨q, 0, none⟩)) ∧ Held w0 w' (rDisk q d :: rDisk p d :: B) := by
  obtain ⟨⟨bs, bl, bh, vp⟩, h1⟩ := h.dopen
  have hm : CloneMid w0 B p d bs bl bh vp [] w := h1
  obtain ⟨vA, vc, hvp, -, -⟩ : ∃ vA vc, vp = .slice vA d.pending.length vc ∧ d.pending.length ≤ vc ∧ vc ≤ 9223372036854775807 := by
    obtain ⟨ps, hps, h2⟩ := Held.acts_open h1.pull3
    obtain ⟨A, c, hv, r1, r2⟩ := Held.rows_form (l1 := []) h2
    have hl : (ps.map rowOf).length = d.pending.length := by rw [← hps]; simp
    rw [hl] at hv r1
    exact ⟨A, c, hv, r1, r2⟩
  obtain ⟨c0, c1, c2, c4⟩ := hm.cells
  have HM := hid (dmade_any w p (some bs) c1)
  have HV := hid hvp
  have HS := hid hm.drew
  have HK := hid (And.intro hok hpl)
  clear h h1 hok hpl hm hvp
  go_enter Try.func21, Try.ntmps21
  go_wp2_with (first
    | (go_at_call 39; refine HM.out.mono ?_; rintro e w' ⟨rfl, rfl⟩))
  go_region_held3 (fun w' => w'.cell? ⟨p, 0, none⟩ = some (.int .i64 d.room) ∧ w'.cell? ⟨p, 1, none⟩ = some (.map (some bs)) ∧ w'.cell? ⟨p, 2, none⟩ = some (.map (some bl)) ∧ w'.cell? ⟨p, 4, none⟩ = some (.map (some bh)))
    (first | exact ⟨d0, d1, d2, d4⟩ | exact ⟨c0, c1, c2, c4⟩ | exact ⟨((Mod.refl (fun _ => False) _).alloc _).cell d0 (fun h => h), ((Mod.refl (fun _ => False) _).alloc _).cell d1 (fun h => h), ((Mod.refl (fun _ => False) _).alloc _).cell d2 (fun h => h), ((Mod.refl (fun _ => False) _).alloc _).cell d4 (fun h => h)⟩)
    (first
      | (go_at_call 43; (with_reducible refine (CloneMid.seen HS.out HK.out.1).mono ?_); rintro e w1 ⟨b1, rfl, g⟩; obtain ⟨d0, d1, d2, d4⟩ := g.cells; clear HS; have HS := hid g; clear g)
      | (go_at_call 43; (with_reducible refine (CloneMid.last HS.out HK.out.1).mono ?_); rintro e w1 ⟨b2, rfl, g⟩; obtain ⟨d0, d1, d2, d4⟩ := g.cells; clear HS; have HS := hid g; clear g)
      | (go_at_call 44; (with_reducible refine (CloneMid.hold HS.out).mono ?_); rintro e w1 ⟨b3, rfl, g⟩; obtain ⟨d0, d1, d2, d4⟩ := g.cells; clear HS; have HS := hid g; clear g))
  all_goals
    obtain ⟨ps, hps, hpl, hC⟩ := clone_begin (b1 := b1) (b2 := b2) (b3 := b3) HS.out (by first
      | exact .refl _
      | exact .swap _ _ _
      | exact .cons _ (.swap _ _ _)
      | exact (List.perm_append_comm (l₁ := [_]) (l₂ := [_, _]))
      | exact (List.perm_append_comm (l₁ := [_, _]) (l₂ := [_]))
      | exact ((List.perm_append_comm (l₁ := [_]) (l₂ := [_, _])).trans (.swap _ _ _))
      | exact ((List.perm_append_comm (l₁ := [_, _]) (l₂ := [_])).trans (.swap _ _ _))
      | exact ((List.perm_append_comm (l₁ := [_, _]) (l₂ := [_])).trans (.cons _ (.swap _ _ _)))) HV.out
    have e3 : (w1.alloc (.cells #[.int .i64 d.room, .map (some b1), .map (some b2), .slice none 0 0, .map (some b3)] 52)).cell? ⟨p, 3, none⟩ = some (.slice vA ps.length vc) := clone_cell hC
    have HC := hid hC
    have HP := hid hps
    have hpsl : ps.length ≤ 1000000 := by rw [hpl]; exact HK.out.2
    clear hC hps hpl c0 c1 c2 c4 d0 d1 d2 d4 HS
    generalize w1.alloc (.cells #[.int .i64 d.room, .map (some b1), .map (some b2), .slice none 0 0, .map (some b3)] 52) = w2 at *
    generalize w1.heap.size = q at *
    go_wp2_with fail
    clear e3
    go_loopw [35] (fun iv wr => ∃ k : Nat, k ≤ ps.length ∧ iv = .int .i64 k ∧ CloneAt w0 B p q d b1 b2 b3 bs bl bh vA vc ps k wr) (fun iv _ => ps.length - (intOf iv).toNat)
    case atStart => exact ⟨0, Nat.zero_le _, rfl, HC.out⟩
    case round =>
      obtain ⟨k, hk, rfl, hA⟩ := hrel
      by_cases hlt : k < ps.length
      · obtain ⟨vr, cps, hcps, hh⟩ := hA
        obtain ⟨g, c, hvp, r0, r1, r2, r3⟩ := row4 (Held.pull1 hh) hlt
        obtain ⟨bA, bc, hb, l1, l2⟩ := Held.bytes_form (Held.pull2 hh) (List.getElem_mem hlt)
        have hrd := Held.bytes_at (Held.pull2 hh) (List.getElem_mem hlt)
        injection hvp with hvp _ hvc
        subst hvp hvc
        rw [hb] at r3 hrd
        have hmem : ps[k].1 ∈ d.pending := by rw [← HP.out]; exact List.mem_map_of_mem (List.getElem_mem hlt)
        obtain ⟨-, -, e3⟩ := HK.out.1.deed hmem
        have HT := hid (fun (w : World) (ab : Nat) (t : TypeId) (cs : Array Value) (vr v' : Value) (nA : Option Addr) (nc : Nat) hx => clone_step (w0 := w0) (w := w) (B := B) (p := p) (q := q) (d := d) (b1 := b1) (b2 := b2) (b3 := b3) (bs := bs) (bl := bl) (bh := bh) (vc := vc) (vA := some ⟨g, 0, none⟩) (ps := ps) (ab := ab) (t := t) (cs := cs) (cps := cps) (vr := vr) (v' := v') (nA := nA) (nc := nc) hlt hcps hx)
        have hcl : cps.length = k := by have := congrArg List.length hcps; simpa [Nat.min_eq_left hk] using this
        obtain ⟨rA, rc, hvr, m1, m2⟩ := Held.rows_form (l1 := [_, _, _]) hh
        rw [List.length_map, hcl] at hvr m1
        subst hvr
        have hg0 := (hh.block 72 #[.int .i64 ps[k].1.kind, .string ⟨ps[k].1.name.toArray⟩, .int .i64 ps[k].1.at_, .slice bA ps[k].1.b.length bc])
        obtain ⟨a, ha⟩ : ∃ a, a = ps[k].1 := ⟨_, rfl⟩
        have HV2 := hid ha
        rw [← ha] at r0 r1 r2 r3 hg0 hrd HT l1 e3
        have CC := hid (clone_held hg0 (fun _ => True) _ a.b (hrd.alloc _) (by omega))
        have HCL := hid hcl
        clear hh hb hmem ha hg0 hrd hcps hcl
        unfold sv at r1
        go_wp2_with fail
        refine CC.out.mono ?_
        rintro e w3 ⟨v1, rfl, g3⟩
        obtain ⟨nA, nc, rfl, -, -⟩ := Held.form (l1 := []) g3
        have f3 := (Held.blk (l1 := [_]) g3).frozen 3
        have k3 : w3.cell? ⟨wr.heap.size, 3, none⟩ = some (.slice bA a.b.length bc) := (Held.blk (l1 := [_]) g3).cell rfl
        have g4 := Held.store (l1 := [_]) g3 3 (.slice nA a.b.length nc)
        have HG := hid g4
        clear g3 g4 CC r0 r1 r2 r3
        go_wp2_with fail
        generalize w3.setCell ⟨wr.heap.size, 3, none⟩ (.slice nA a.b.length nc) = w4 at *
        generalize wr.heap.size = ab at *
        clear f3 k3
        have g5 : Held w0 w4 ([rBytes (.slice nA a.b.length nc) a.b, rBlk ab 72 #[.int .i64 a.kind, .string ⟨a.name.toArray⟩, .int .i64 a.at_, .slice nA a.b.length nc], rBlk q 52 (diskCells d ⟨b1, b2, b3, .slice rA k rc⟩), rRows 4 72 (.slice (some ⟨g, 0, none⟩) ps.length vc) (ps.map rowOf), rBig bytesLoc (ps.map bOf)] ++ rRows 4 72 (.slice rA k rc) (cps.map rowOf) :: rBig bytesLoc (cps.map bOf) :: rFiles b1 d.seen :: rFiles b2 d.lasting :: rHeld b3 d.held :: rBlk p 52 (diskCells d ⟨bs, bl, bh, .slice (some ⟨g, 0, none⟩) ps.length vc⟩) :: rFiles bs d.seen :: rFiles bl d.lasting :: rHeld bh d.held :: B) := HG.out
        have x0 : w4.cell? ⟨ab, 0, none⟩ = some (.int .i64 a.kind) := (Held.blk (l1 := [_]) g5).cell rfl
        have x1 : w4.cell? ⟨ab, 1, none⟩ = some (.string ⟨a.name.toArray⟩) := (Held.blk (l1 := [_]) g5).cell rfl
        have x2 : w4.cell? ⟨ab, 2, none⟩ = some (.int .i64 a.at_) := (Held.blk (l1 := [_]) g5).cell rfl
        have x3 : w4.cell? ⟨ab, 3, none⟩ = some (.slice nA a.b.length nc) := (Held.blk (l1 := [_]) g5).cell rfl
        have y3 : w4.cell? ⟨q, 3, none⟩ = some (.slice rA k rc) := (Held.blk (l1 := [_, _]) g5).cell rfl
        have z3 : ∀ o, (w4.alloc o).cell? ⟨q, 3, none⟩ = some (.slice rA k rc) := fun o => ((Mod.refl (fun _ => False) w4).alloc o).cell y3 (fun h => h)
        have HG5 := hid g5
        obtain ⟨iA, iz, is, ib, iy⟩ := info_parts Try.infoAct
        have HI := hid (And.intro iz (And.intro is (And.intro ib iy)))
        have HRL := hid (show (cps.map rowOf).length = k by rw [List.length_map]; exact HCL.out)
        clear g5 HG iz is ib iy
        go_region_law (refine step_append_row [rBytes (.slice nA a.b.length nc) a.b, rBlk ab 72 #[.int .i64 a.kind, .string ⟨a.name.toArray⟩, .int .i64 a.at_, .slice nA a.b.length nc], rBlk q 52 _, rRows 4 72 _ _, rBig bytesLoc _] _ rfl _ _ 49 rfl 4 72 iA _ 56 Try.underlying49 HI.out.1 HI.out.2.1 HI.out.2.2.1 HI.out.2.2.2 rfl (by decide) (.slice rA k rc) (cps.map rowOf) k HRL.out rfl (HG5.out.step (by repeat (first | exact Mod.refl _ _ | refine Mod.alloc ?_ _ | refine Mod.drew ?_))) _ _ [.int .i64 a.kind, .string ⟨a.name.toArray⟩, .int .i64 a.at_, .slice nA a.b.length nc] rfl rfl (World.news_of_block (heap_alloc_new w4 _)) (by intro u hu; simp only [List.mem_cons, List.not_mem_nil, or_false] at hu; rcases hu with rfl | rfl | rfl | rfl <;> rfl) (by omega) (by unfold maxLen; omega) ?_; intro A' c' w5 p1 p2 g6; have G6 := hid g6; have hb6 := Held.blk (l1 := [_, _]) g6; have hf6 := hb6.frozen 3; have hc6 : w5.cell? ⟨q, 3, none⟩ = some (.slice rA k rc) := hb6.cell rfl; clear g6 hb6)
        all_goals
          have HX := hid (HT.out _ _ _ _ _ _ _ _ G6.out)
          clear hf6 hc6 x0 x1 x2 x3 y3 z3 G6
          generalize w5.setCell ⟨q, 3, none⟩ (.slice A' (k + 1) c') = w6 at *
          go_wp2_with fail
          exact ⟨⟨k + 1, by omega, by simp, HX.out⟩, by show ps.length - ((k : Int) + 1).toNat < ps.length - (k : Int).toNat; omega⟩
      · have hke : k = ps.length := by omega
        have HE := hid (clone_done HP.out hke hA)
        clear hA hke
        go_wp2_with fail
        go_ret
        exact ⟨_, rfl, HE.out⟩
end Go.Proofs.Ytkednbkildkkmaa
