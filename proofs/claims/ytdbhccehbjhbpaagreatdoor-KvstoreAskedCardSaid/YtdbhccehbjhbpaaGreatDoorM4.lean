/- disk: contracts over held things. (Several texts in one file, by merge.py.) -/
import Derived.Test.YtdbhccehbjhbpaaGreatDoorM2
import Derived.Test.YtdbhccehbjhbpaaGreatDoorM1
import Derived.Deep.AppendLies
import Derived.Test.YtdbhccehbjhbpaaGreatDoorM3
import Derived.BigQuiet
import Derived.Deep.RegionHeld3
import Derived.IntWalk
import Derived.Outline
import Derived.Deep.CutBlock
import Derived.Deep.DeepCutAuto
import Derived.Deep.RegionLaw
import Derived.StillTailTactics
import Derived.Laws.OwnMore

/- disk: do. -/
namespace Go.Proofs.YtdbhccehbjhbpaaGreatDoor
open Go.RowKit
open Disk

theorem Held.big_snoc {α : Type} {R : α → World → List Nat → Prop} (hR : Loc R) {w0 w : World} {A B : List Res} {l : List α} {x : α} (h : Held w0 w (A ++ rBig hR l :: Res.of hR x :: B)) : Held w0 w (A ++ rBig hR (l ++ [x]) :: B) := by
  have h1 := Held.big_nil hR h
  have h2 := h1.perm (Rs' := (A ++ [rBig hR l]) ++ Res.of hR x :: rBig hR [] :: B) (by
    have := (List.perm_middle (a := rBig hR []) (l₁ := A ++ [rBig hR l, Res.of hR x]) (l₂ := B)).symm
    simpa using this)
  have h3 := Held.big_cons hR h2
  exact Held.big_join hR (by simpa using h3)

theorem acts_close {w0 w : World} {A B : List Res} {v bv : Value} {l : List Deed} {a : Deed} {bvs : List Value} (hbl : bvs.length = l.length)
    (h : Held w0 w (A ++ rRows 4 185 v (List.zipWith actRow l bvs ++ [actRow a bv]) :: rBig bytesLoc (bvs.zip (l.map (·.b))) :: rBytes bv a.b :: B)) : Held w0 w (A ++ rActs v (l ++ [a]) :: B) := by
  have h0 : Held w0 w ((A ++ [rRows 4 185 v (List.zipWith actRow l bvs ++ [actRow a bv])]) ++ rBig bytesLoc (bvs.zip (l.map (·.b))) :: rBytes bv a.b :: B) := by simpa using h
  have h1 := Held.big_snoc (A := A ++ [rRows 4 185 v (List.zipWith actRow l bvs ++ [actRow a bv])]) bytesLoc (x := (bv, a.b)) h0
  refine Held.close_some (bvs ++ [bv]) (by simp [hbl]) ?_
  have e1 : List.zipWith actRow (l ++ [a]) (bvs ++ [bv]) = List.zipWith actRow l bvs ++ [actRow a bv] := by
    rw [List.zipWith_append hbl.symm]; rfl
  have e2 : (bvs ++ [bv]).zip ((l ++ [a]).map (·.b)) = bvs.zip (l.map (·.b)) ++ [(bv, a.b)] := by
    rw [List.map_append, List.zip_append (by simp [hbl])]; rfl
  rw [e1, e2]
  simpa using h1

theorem do_mid {w0 w : World} {A B : List Res} {pb p : Nat} {t : TypeId} {cs : Array Value} {d : Dk} {i : DiskIn} {f : Files} {a : Deed} {bv v : Value} {bvs : List Value} (hbl : bvs.length = d.pending.length)
    (h : Held w0 w ((rBlk pb t cs :: (A ++ [rBytes bv a.b, rBlk p 81 (diskCells d i), rFiles i.bs f, rFiles i.bl d.lasting])) ++ rRows 4 185 v (List.zipWith actRow d.pending bvs ++ [actRow a bv]) :: rBig bytesLoc (bvs.zip (d.pending.map (·.b))) :: rHeld i.bh d.held :: B)) :
    Held w0 (w.setCell ⟨p, 3, none⟩ v) ((rBlk pb t cs :: (A ++ [rBlk p 81 (diskCells d { i with vp := v })])) ++ rFiles i.bs f :: (rFiles i.bl d.lasting :: rActs v (d.pending ++ [a]) :: rHeld i.bh d.held :: B)) := by
  have h1 := Held.store (l1 := rBlk pb t cs :: (A ++ [rBytes bv a.b])) (by simpa using h) 3 v
  have h2 := h1.perm (Rs' := (rBlk pb t cs :: (A ++ [rBlk p 81 (diskCells d { i with vp := v }), rFiles i.bs f, rFiles i.bl d.lasting])) ++ rRows 4 185 v (List.zipWith actRow d.pending bvs ++ [actRow a bv]) :: rBig bytesLoc (bvs.zip (d.pending.map (·.b))) :: rBytes bv a.b :: rHeld i.bh d.held :: B) (by
    have e : (diskCells d i).setIfInBounds 3 v = diskCells d { i with vp := v } := by simp [diskCells]
    rw [e]
    have := (List.perm_middle (a := rBytes bv a.b) (l₁ := [rBlk p 81 (diskCells d { i with vp := v }), rFiles i.bs f, rFiles i.bl d.lasting, rRows 4 185 v (List.zipWith actRow d.pending bvs ++ [actRow a bv]), rBig bytesLoc (bvs.zip (d.pending.map (·.b)))]) (l₂ := rHeld i.bh d.held :: B)).symm
    simpa using (this.append_left A).cons (rBlk pb t cs))
  have h3 := acts_close hbl h2
  simpa using h3

theorem Tryz.infoAct : (Tryz.prog.info? 185).map (fun i => (i.zero, i.size, i.bytes)) = some (some (.agg #[.int .i64 0, .string ⟨#[]⟩, .int .i64 0, .slice none 0 0]), 4, 56) := by kernel_rfl

set_option maxRecDepth 100000 in
set_option maxHeartbeats 4000000 in
theorem ddo_held {w0 w : World} {A B : List Res} {p : Nat} {d : Dk} (a : Deed) (bA : Option Addr) (bc : Nat) (h : Held w0 w (A ++ rBytes (.slice bA a.b.length bc) a.b :: rDisk p d :: B))
    (hn : a.name.length ≤ 9223372036854775807) (hk : a.kind ≤ 2) (hsz : a.at_ + a.b.length ≤ 1073741824) (hpl : d.pending.length ≤ 1000000000) (hfs : ∀ x, Dict.get d.seen a.name = some x → x.length ≤ 1073741824) :
    Calls Tryz.prog 129 #[.pointer (some ⟨p, 0, none⟩), deedV a bA bc] w fun e w' => e = .returned (.tuple #[]) ∧ Held w0 w' (A ++ rDisk p (d.act a) :: B) := by
  obtain ⟨i, h1⟩ := Held.disk_open (A := A ++ [rBytes (.slice bA a.b.length bc) a.b]) (by simpa using h)
  have h2 : Held w0 (w.alloc (.cells #[.int .i64 a.kind, sv a.name, .int .i64 a.at_, .slice bA a.b.length bc] 185)) ((rBlk w.heap.size 185 #[.int .i64 a.kind, sv a.name, .int .i64 a.at_, .slice bA a.b.length bc] :: (A ++ [rBytes (.slice bA a.b.length bc) a.b, rBlk p 81 (diskCells d i)])) ++ rFiles i.bs d.seen :: ([rFiles i.bl d.lasting, rActs i.vp d.pending, rHeld i.bh d.held] ++ B)) := by
    simpa [diskRes] using h1.block 185 #[.int .i64 a.kind, sv a.name, .int .i64 a.at_, .slice bA a.b.length bc]
  have hcs : ∀ (w' : World) (f : Files), Held w0 w' ((rBlk w.heap.size 185 #[.int .i64 a.kind, sv a.name, .int .i64 a.at_, .slice bA a.b.length bc] :: (A ++ [rBytes (.slice bA a.b.length bc) a.b, rBlk p 81 (diskCells d i)])) ++ rFiles i.bs f :: ([rFiles i.bl d.lasting, rActs i.vp d.pending, rHeld i.bh d.held] ++ B)) →
      w'.cell? ⟨p, 1, none⟩ = some (.map (some i.bs)) ∧ w'.cell? ⟨w.heap.size, 0, none⟩ = some (.int .i64 a.kind) ∧ w'.cell? ⟨w.heap.size, 1, none⟩ = some (sv a.name) ∧ w'.cell? ⟨w.heap.size, 2, none⟩ = some (.int .i64 a.at_) ∧ w'.cell? ⟨w.heap.size, 3, none⟩ = some (.slice bA a.b.length bc) := by
    intro w' f h
    have b1 := Held.blk (l1 := []) h
    have b2 := Held.blk (l1 := rBlk w.heap.size 185 #[.int .i64 a.kind, sv a.name, .int .i64 a.at_, .slice bA a.b.length bc] :: (A ++ [rBytes (.slice bA a.b.length bc) a.b])) (by simpa using h)
    exact ⟨b2.cell rfl, b1.cell rfl, b1.cell rfl, b1.cell rfl, b1.cell rfl⟩
  obtain ⟨c1, c2, c3, c4, c5⟩ := hcs _ _ h2
  have HS := hid hcs
  have HH := hid h2
  have HC := hid (fdoes_held (h2.step ((Mod.refl _ _).drew)) a bA bc (fun w' M h => Held.bytes (l1 := rBlk w.heap.size 185 #[.int .i64 a.kind, sv a.name, .int .i64 a.at_, .slice bA a.b.length bc] :: A) (by simpa using h)) hn hk hsz hfs)
  clear h h1 h2 hcs
  unfold deedV at HC ⊢
  go_enter Tryz.func129, Tryz.ntmps129
  go_wp2_with fail
  go_region_held3 (fun w' => w'.cell? ⟨p, 1, none⟩ = some (.map (some i.bs)) ∧ w'.cell? ⟨w.heap.size, 0, none⟩ = some (.int .i64 a.kind) ∧ w'.cell? ⟨w.heap.size, 1, none⟩ = some (sv a.name) ∧ w'.cell? ⟨w.heap.size, 2, none⟩ = some (.int .i64 a.at_) ∧ w'.cell? ⟨w.heap.size, 3, none⟩ = some (.slice bA a.b.length bc))
    (first | exact ⟨c1, c2, c3, c4, c5⟩ | exact ⟨d1, d2, d3, d4, d5⟩)
    (first
      | (go_at_call 172; refine HC.out.mono ?_; rintro e w1 ⟨rfl, g1⟩; obtain ⟨d1, d2, d3, d4, d5⟩ := HS.out _ _ g1; have G1 := hid g1; clear g1))
  have g0 : Held w0 w1 ((rBlk w.heap.size 185 #[.int .i64 a.kind, sv a.name, .int .i64 a.at_, .slice bA a.b.length bc] :: (A ++ [rBytes (.slice bA a.b.length bc) a.b, rBlk p 81 (diskCells d i), rFiles i.bs (Files.does d.seen a), rFiles i.bl d.lasting])) ++ rActs i.vp d.pending :: (rHeld i.bh d.held :: B)) := by simpa using G1.out
  obtain ⟨bvs, hbl, g2⟩ := Held.open_some g0
  clear g0
  have hp3 : ∀ o, (w1.alloc o).cell? ⟨p, 3, none⟩ = some i.vp := fun o => (((Held.blk (l1 := rBlk w.heap.size 185 #[.int .i64 a.kind, sv a.name, .int .i64 a.at_, .slice bA a.b.length bc] :: (A ++ [rBytes (.slice bA a.b.length bc) a.b])) (by simpa using g2)) : Blk w1 p 81 (diskCells d i)).alloc o).cell rfl
  have hp3' : w1.cell? ⟨p, 3, none⟩ = some i.vp := ((Held.blk (l1 := rBlk w.heap.size 185 #[.int .i64 a.kind, sv a.name, .int .i64 a.at_, .slice bA a.b.length bc] :: (A ++ [rBytes (.slice bA a.b.length bc) a.b])) (by simpa using g2)) : Blk w1 p 81 (diskCells d i)).cell rfl
  have HG := hid g2
  obtain ⟨vA, vc, hvp, lv1, lv2⟩ := Held.rows_form (l1 := (rBlk w.heap.size 185 #[.int .i64 a.kind, sv a.name, .int .i64 a.at_, .slice bA a.b.length bc] :: (A ++ [rBytes (.slice bA a.b.length bc) a.b, rBlk p 81 (diskCells d i), rFiles i.bs (Files.does d.seen a), rFiles i.bl d.lasting]))) (by simpa using g2)
  obtain ⟨iA, iz, is, ib, iy⟩ := info_parts Tryz.infoAct
  have HI := hid (And.intro iz (And.intro is (And.intro ib iy)))
  have hrl : (List.zipWith actRow d.pending bvs).length = d.pending.length := by simp [hbl]
  rw [hrl] at hvp lv1
  have HR := hid hrl
  clear g2 hrl iz is ib iy
  rw [hvp] at hp3 hp3'
  have HV := hid hvp
  clear hvp
  go_wp2_with fail
  go_region_law (refine step_append_row (rBlk w.heap.size 185 #[.int .i64 a.kind, sv a.name, .int .i64 a.at_, .slice bA a.b.length bc] :: (A ++ [rBytes (.slice bA a.b.length bc) a.b, rBlk p 81 (diskCells d i), rFiles i.bs (Files.does d.seen a), rFiles i.bl d.lasting])) _ rfl _ _ 78 rfl 4 185 iA _ 56 Tryz.underlying78 HI.out.1 HI.out.2.1 HI.out.2.2.1 HI.out.2.2.2 rfl (by decide) _ _ _ HR.out HV.out.symm (HG.out.step (by repeat (first | exact Mod.refl _ _ | refine Mod.alloc ?_ _ | refine Mod.drew ?_))) _ _ [.int .i64 a.kind, sv a.name, .int .i64 a.at_, .slice bA a.b.length bc] rfl rfl (World.news_of_block (heap_alloc_new w1 _)) (by intro u hu; simp only [List.mem_cons, List.not_mem_nil, or_false] at hu; rcases hu with rfl | rfl | rfl | rfl <;> rfl) (by omega) (by unfold maxLen; omega) ?_; intro A' c' w2 q1 q2 g3; have G3 := hid g3; have hb3 := Held.blk (l1 := rBlk w.heap.size 185 #[.int .i64 a.kind, sv a.name, .int .i64 a.at_, .slice bA a.b.length bc] :: (A ++ [rBytes (.slice bA a.b.length bc) a.b])) (by simpa using g3); have hf3 := hb3.frozen 3; have hc3 := hb3.cell (i := 3) rfl; clear g3 hb3)
  all_goals
    obtain ⟨bh2, hB4⟩ : ∃ vq, Value.slice A' (d.pending.length + 1) c' = vq ∧ Held w0 (w2.setCell ⟨p, 3, none⟩ (.slice A' (d.pending.length + 1) c')) ((rBlk w.heap.size 185 #[.int .i64 a.kind, sv a.name, .int .i64 a.at_, .slice bA a.b.length bc] :: (A ++ [rBlk p 81 (diskCells d { i with vp := vq })])) ++ rFiles i.bs (Files.does d.seen a) :: (rFiles i.bl d.lasting :: rActs vq (d.pending ++ [a]) :: rHeld i.bh d.held :: B)) := by
      refine ⟨_, rfl, ?_⟩
      exact do_mid hbl G3.out
    obtain ⟨hvq, hB4⟩ := hB4
    clear hvq HG G3 hf3 hc3 hp3 hp3'
    generalize w2.setCell ⟨p, 3, none⟩ (.slice A' (d.pending.length + 1) c') = w3 at *
    have b4 := Held.blk (l1 := rBlk w.heap.size 185 #[.int .i64 a.kind, sv a.name, .int .i64 a.at_, .slice bA a.b.length bc] :: A) (by simpa using hB4)
    have b5 := Held.blk (l1 := []) hB4
    have e1 : w3.cell? ⟨p, 1, none⟩ = some (.map (some i.bs)) := b4.cell rfl
    have e4 : w3.cell? ⟨p, 4, none⟩ = some (.map (some i.bh)) := b4.cell rfl
    have k1 : w3.cell? ⟨w.heap.size, 1, none⟩ = some (sv a.name) := b5.cell rfl
    obtain ⟨ys, hp, h5⟩ := Held.files_open hB4
    have HB := hid hB4
    clear hB4 b4 b5
    cases hg : Dict.get (Files.does d.seen a) a.name with
    | none =>
      have hlk' : ∀ n, (Instr.lookup 77 (.map (some i.bs)) (sv a.name) false).run Tryz.prog (w3.drewN n) = .ok (.pointer none) (w3.drewN n) := fun n => ((h5.drewN n).files_none hp hn hg).1 false
      have hlk2 : (Instr.lookup 77 (.map (some i.bs)) (sv a.name) false).run Tryz.prog w3.drew = .ok (.pointer none) w3.drew := ((h5.step ((Mod.refl _ _).drew)).files_none hp hn hg).1 false
      clear h5 hlk'
      have HE := hid (show d.act a = { d with seen := Files.does d.seen a, pending := d.pending ++ [a] } by unfold Dk.act; rw [hg])
      clear hg
      go_wp2_with fail
      go_region
      go_wp2_with fail
      go_end0
      refine ⟨rfl, ?_⟩
      rw [HE.out]
      refine Held.disk_close { i with vp := bh2 } ?_
      have g := (Held.drop (l1 := []) HB.out).step ((Mod.refl _ _).drew)
      simpa [diskRes, diskCells] using g
    | some x =>
      obtain ⟨ys1, ys2, b, q, rfl, hlk, h6⟩ := (h5.step ((Mod.refl _ _).drew)).files_some hp hn hg
      have hlk2 : _ := hlk false
      have b6 := Held.blk (l1 := (rBlk w.heap.size 185 #[.int .i64 a.kind, sv a.name, .int .i64 a.at_, .slice bA a.b.length bc] :: (A ++ [rBlk p 81 (diskCells d { i with vp := bh2 })])) ++ [rMapB Tryz.prog 9 i.bs (filesL (ys1 ++ ((a.name, x), .pointer (some ⟨b, 0, none⟩)) :: ys2)), rBig fileLoc ys1]) (by simpa using h6)
      obtain ⟨qA, qc, rfl, r1, r2⟩ := Held.form (l1 := (rBlk w.heap.size 185 #[.int .i64 a.kind, sv a.name, .int .i64 a.at_, .slice bA a.b.length bc] :: (A ++ [rBlk p 81 (diskCells d { i with vp := bh2 })])) ++ [rMapB Tryz.prog 9 i.bs (filesL (ys1 ++ ((a.name, x), .pointer (some ⟨b, 0, none⟩)) :: ys2)), rBig fileLoc ys1, rBlk b 190 #[q]]) (by simpa using h6)
      have k6 : w3.cell? ⟨b, 0, none⟩ = some (.slice qA x.length qc) := b6.cell rfl
      have g9 : Held w0 w3.drew.drew ((rBlk w.heap.size 185 #[.int .i64 a.kind, sv a.name, .int .i64 a.at_, .slice bA a.b.length bc] :: (A ++ [rBlk p 81 (diskCells d { i with vp := bh2 }), rFiles i.bs (Files.does d.seen a), rFiles i.bl d.lasting, rActs bh2 (d.pending ++ [a])])) ++ rHeld i.bh d.held :: B) := by
        have := ((HB.out.step ((Mod.refl _ _).drew)).step ((Mod.refl _ _).drew))
        simpa using this
      have hlk3 := g9.held_lookup hn
      obtain ⟨hv, hhv⟩ : ∃ hv : Nat, hv = (Dict.get d.held a.name).getD 0 := ⟨_, rfl⟩
      rw [← hhv] at hlk3
      obtain ⟨w5, hr5, h5'⟩ := g9.held_put hn (max hv x.length)
      have f4 : w5.cell? ⟨p, 4, none⟩ = some (.map (some i.bh)) := (Held.blk (l1 := rBlk w.heap.size 185 #[.int .i64 a.kind, sv a.name, .int .i64 a.at_, .slice bA a.b.length bc] :: A) (by simpa using h5')).cell rfl
      have f1 : w5.cell? ⟨w.heap.size, 1, none⟩ = some (sv a.name) := (Held.blk (l1 := []) h5').cell rfl
      have f6 : w5.cell? ⟨b, 0, none⟩ = some (.slice qA x.length qc) := by
        obtain ⟨w6, hr6, h7⟩ := Held.held_put (w := w3.drew.drew) (A := (rBlk w.heap.size 185 #[.int .i64 a.kind, sv a.name, .int .i64 a.at_, .slice bA a.b.length bc] :: (A ++ [rBlk p 81 (diskCells d { i with vp := bh2 }), rMapB Tryz.prog 9 i.bs (filesL (ys1 ++ ((a.name, x), .pointer (some ⟨b, 0, none⟩)) :: ys2)), rBig fileLoc ys1, rBlk b 190 #[.slice qA x.length qc], rBytes (.slice qA x.length qc) x, rBig fileLoc ys2, rFiles i.bl d.lasting, rActs bh2 (d.pending ++ [a])]))) (B := B) (bm := i.bh) (h := d.held) (by simpa using (h6.step ((Mod.refl _ _).drew))) hn (max hv x.length)
        have : w6 = w5 := by
          rw [hr5] at hr6
          injection hr6 with _ h
          exact h.symm
        rw [this] at h7
        exact (Held.blk (l1 := (rBlk w.heap.size 185 #[.int .i64 a.kind, sv a.name, .int .i64 a.at_, .slice bA a.b.length bc] :: (A ++ [rBlk p 81 (diskCells d { i with vp := bh2 }), rMapB Tryz.prog 9 i.bs (filesL (ys1 ++ ((a.name, x), .pointer (some ⟨b, 0, none⟩)) :: ys2)), rBig fileLoc ys1]))) (by simpa using h7)).cell rfl
      have HP := hid h5'
      have HM := hid (show (if (hv : Int) < (x.length : Int) then (x.length : Int) else hv) = ((max hv x.length : Nat) : Int) by split <;> omega)
      have HE := hid (show d.act a = { d with seen := Files.does d.seen a, pending := d.pending ++ [a], held := Dict.put d.held a.name (max hv x.length) } by unfold Dk.act; rw [hg, hhv])
      clear hlk h5 h6 b6 hg g9 hhv h5'
      go_wp2_with fail
      go_region
      go_wp2_with fail
      go_region_held3 (fun w' => w'.cell? ⟨p, 4, none⟩ = some (.map (some i.bh)) ∧ w'.cell? ⟨w.heap.size, 1, none⟩ = some (sv a.name) ∧ w'.cell? ⟨b, 0, none⟩ = some (.slice qA x.length qc))
        (first | exact ⟨e4, k1, k6⟩ | exact ⟨f4, f1, f6⟩)
        (first
        | (refine step_max rfl _ _ 3 rfl hv x.length (max hv x.length : Nat) rfl rfl HM.out ?_))
      all_goals
        go_wp2_with fail
        go_end0
        refine ⟨rfl, ?_⟩
        rw [HE.out]
        refine Held.disk_close { i with vp := bh2 } ?_
        have g := (Held.drop (l1 := []) HP.out)
        simpa [diskRes, diskCells] using g
end Go.Proofs.YtdbhccehbjhbpaaGreatDoor

/- Held things, one brought to the front; a disk laid open at the front. -/
namespace Go.Proofs.YtdbhccehbjhbpaaGreatDoor
open Go.RowKit
open Disk

section
variable {w0 w w' : World} {B : List Res}
theorem Held.pull1 {x0 x1 : Res} (h : Held w0 w (x0 :: x1 :: B)) : Held w0 w (x1 :: x0 :: B) := h.perm (List.perm_middle (l₁ := [x0]))
theorem Held.push1 {x0 x1 : Res} (h : Held w0 w (x1 :: x0 :: B)) : Held w0 w (x0 :: x1 :: B) := h.perm (List.perm_middle (l₁ := [x0])).symm
theorem Held.pull2 {x0 x1 x2 : Res} (h : Held w0 w (x0 :: x1 :: x2 :: B)) : Held w0 w (x2 :: x0 :: x1 :: B) := h.perm (List.perm_middle (l₁ := [x0, x1]))
theorem Held.push2 {x0 x1 x2 : Res} (h : Held w0 w (x2 :: x0 :: x1 :: B)) : Held w0 w (x0 :: x1 :: x2 :: B) := h.perm (List.perm_middle (l₁ := [x0, x1])).symm
theorem Held.pull3 {x0 x1 x2 x3 : Res} (h : Held w0 w (x0 :: x1 :: x2 :: x3 :: B)) : Held w0 w (x3 :: x0 :: x1 :: x2 :: B) := h.perm (List.perm_middle (l₁ := [x0, x1, x2]))
theorem Held.push3 {x0 x1 x2 x3 : Res} (h : Held w0 w (x3 :: x0 :: x1 :: x2 :: B)) : Held w0 w (x0 :: x1 :: x2 :: x3 :: B) := h.perm (List.perm_middle (l₁ := [x0, x1, x2])).symm
theorem Held.pull4 {x0 x1 x2 x3 x4 : Res} (h : Held w0 w (x0 :: x1 :: x2 :: x3 :: x4 :: B)) : Held w0 w (x4 :: x0 :: x1 :: x2 :: x3 :: B) := h.perm (List.perm_middle (l₁ := [x0, x1, x2, x3]))
theorem Held.push4 {x0 x1 x2 x3 x4 : Res} (h : Held w0 w (x4 :: x0 :: x1 :: x2 :: x3 :: B)) : Held w0 w (x0 :: x1 :: x2 :: x3 :: x4 :: B) := h.perm (List.perm_middle (l₁ := [x0, x1, x2, x3])).symm
theorem Held.pull5 {x0 x1 x2 x3 x4 x5 : Res} (h : Held w0 w (x0 :: x1 :: x2 :: x3 :: x4 :: x5 :: B)) : Held w0 w (x5 :: x0 :: x1 :: x2 :: x3 :: x4 :: B) := h.perm (List.perm_middle (l₁ := [x0, x1, x2, x3, x4]))
theorem Held.push5 {x0 x1 x2 x3 x4 x5 : Res} (h : Held w0 w (x5 :: x0 :: x1 :: x2 :: x3 :: x4 :: B)) : Held w0 w (x0 :: x1 :: x2 :: x3 :: x4 :: x5 :: B) := h.perm (List.perm_middle (l₁ := [x0, x1, x2, x3, x4])).symm
theorem Held.pull6 {x0 x1 x2 x3 x4 x5 x6 : Res} (h : Held w0 w (x0 :: x1 :: x2 :: x3 :: x4 :: x5 :: x6 :: B)) : Held w0 w (x6 :: x0 :: x1 :: x2 :: x3 :: x4 :: x5 :: B) := h.perm (List.perm_middle (l₁ := [x0, x1, x2, x3, x4, x5]))
theorem Held.push6 {x0 x1 x2 x3 x4 x5 x6 : Res} (h : Held w0 w (x6 :: x0 :: x1 :: x2 :: x3 :: x4 :: x5 :: B)) : Held w0 w (x0 :: x1 :: x2 :: x3 :: x4 :: x5 :: x6 :: B) := h.perm (List.perm_middle (l₁ := [x0, x1, x2, x3, x4, x5])).symm
theorem Held.pull7 {x0 x1 x2 x3 x4 x5 x6 x7 : Res} (h : Held w0 w (x0 :: x1 :: x2 :: x3 :: x4 :: x5 :: x6 :: x7 :: B)) : Held w0 w (x7 :: x0 :: x1 :: x2 :: x3 :: x4 :: x5 :: x6 :: B) := h.perm (List.perm_middle (l₁ := [x0, x1, x2, x3, x4, x5, x6]))
theorem Held.push7 {x0 x1 x2 x3 x4 x5 x6 x7 : Res} (h : Held w0 w (x7 :: x0 :: x1 :: x2 :: x3 :: x4 :: x5 :: x6 :: B)) : Held w0 w (x0 :: x1 :: x2 :: x3 :: x4 :: x5 :: x6 :: x7 :: B) := h.perm (List.perm_middle (l₁ := [x0, x1, x2, x3, x4, x5, x6])).symm
theorem Held.pull8 {x0 x1 x2 x3 x4 x5 x6 x7 x8 : Res} (h : Held w0 w (x0 :: x1 :: x2 :: x3 :: x4 :: x5 :: x6 :: x7 :: x8 :: B)) : Held w0 w (x8 :: x0 :: x1 :: x2 :: x3 :: x4 :: x5 :: x6 :: x7 :: B) := h.perm (List.perm_middle (l₁ := [x0, x1, x2, x3, x4, x5, x6, x7]))
theorem Held.push8 {x0 x1 x2 x3 x4 x5 x6 x7 x8 : Res} (h : Held w0 w (x8 :: x0 :: x1 :: x2 :: x3 :: x4 :: x5 :: x6 :: x7 :: B)) : Held w0 w (x0 :: x1 :: x2 :: x3 :: x4 :: x5 :: x6 :: x7 :: x8 :: B) := h.perm (List.perm_middle (l₁ := [x0, x1, x2, x3, x4, x5, x6, x7])).symm
theorem Held.pull9 {x0 x1 x2 x3 x4 x5 x6 x7 x8 x9 : Res} (h : Held w0 w (x0 :: x1 :: x2 :: x3 :: x4 :: x5 :: x6 :: x7 :: x8 :: x9 :: B)) : Held w0 w (x9 :: x0 :: x1 :: x2 :: x3 :: x4 :: x5 :: x6 :: x7 :: x8 :: B) := h.perm (List.perm_middle (l₁ := [x0, x1, x2, x3, x4, x5, x6, x7, x8]))
theorem Held.push9 {x0 x1 x2 x3 x4 x5 x6 x7 x8 x9 : Res} (h : Held w0 w (x9 :: x0 :: x1 :: x2 :: x3 :: x4 :: x5 :: x6 :: x7 :: x8 :: B)) : Held w0 w (x0 :: x1 :: x2 :: x3 :: x4 :: x5 :: x6 :: x7 :: x8 :: x9 :: B) := h.perm (List.perm_middle (l₁ := [x0, x1, x2, x3, x4, x5, x6, x7, x8])).symm
theorem Held.pull10 {x0 x1 x2 x3 x4 x5 x6 x7 x8 x9 x10 : Res} (h : Held w0 w (x0 :: x1 :: x2 :: x3 :: x4 :: x5 :: x6 :: x7 :: x8 :: x9 :: x10 :: B)) : Held w0 w (x10 :: x0 :: x1 :: x2 :: x3 :: x4 :: x5 :: x6 :: x7 :: x8 :: x9 :: B) := h.perm (List.perm_middle (l₁ := [x0, x1, x2, x3, x4, x5, x6, x7, x8, x9]))
theorem Held.push10 {x0 x1 x2 x3 x4 x5 x6 x7 x8 x9 x10 : Res} (h : Held w0 w (x10 :: x0 :: x1 :: x2 :: x3 :: x4 :: x5 :: x6 :: x7 :: x8 :: x9 :: B)) : Held w0 w (x0 :: x1 :: x2 :: x3 :: x4 :: x5 :: x6 :: x7 :: x8 :: x9 :: x10 :: B) := h.perm (List.perm_middle (l₁ := [x0, x1, x2, x3, x4, x5, x6, x7, x8, x9])).symm

theorem Held.drop0 {x0 : Res} (h : Held w0 w (x0 :: B)) : Held w0 w B := Held.drop (l1 := []) h
theorem Held.drew (h : Held w0 w B) : Held w0 w.drew B := h.step ((Mod.refl _ _).drew)
theorem Held.blk0 {b : Nat} {t : TypeId} {cs : Array Value} (h : Held w0 w (rBlk b t cs :: B)) : Blk w b t cs := Held.blk (l1 := []) h

theorem Held.next0 {it bm : Nat} {L todo : List (Value × Value)} (h : Held w0 w (rIter Tryz.prog 9 it bm L todo :: B)) : ∀ ty,
    (todo = [] ∧ (Instr.next (.pointer (some ⟨it, 0, none⟩)) false ty).run Tryz.prog w = .ok (.tuple #[.bool false]) w) ∨ ∃ k v w', (Instr.next (.pointer (some ⟨it, 0, none⟩)) false ty).run Tryz.prog w = .ok (.tuple #[.bool true, k, v]) w' ∧ NextPost w0 [] B it bm L todo k v w' :=
  fun ty => Held.next (A := []) h ty

/-! ### a disk -/
variable {p : Nat} {d : Dk}
theorem Held.dopen (h : Held w0 w (rDisk p d :: B)) : ∃ i, Held w0 w (rBlk p 81 (diskCells d i) :: rFiles i.bs d.seen :: rFiles i.bl d.lasting :: rActs i.vp d.pending :: rHeld i.bh d.held :: B) := Held.disk_open (A := []) h
theorem Held.dshut (i : DiskIn) (h : Held w0 w (rBlk p 81 (diskCells d i) :: rFiles i.bs d.seen :: rFiles i.bl d.lasting :: rActs i.vp d.pending :: rHeld i.bh d.held :: B)) : Held w0 w (rDisk p d :: B) := Held.disk_close (A := []) i h
/-- the disk's cells and its seen files' map, as they are read. -/
structure DiskSeen (p : Nat) (d : Dk) (w : World) (i : DiskIn) : Prop where
  c0 : w.cell? ⟨p, 0, none⟩ = some (.int .i64 d.room)
  c1 : w.cell? ⟨p, 1, none⟩ = some (.map (some i.bs))
  c2 : w.cell? ⟨p, 2, none⟩ = some (.map (some i.bl))
  c3 : w.cell? ⟨p, 3, none⟩ = some i.vp
  c4 : w.cell? ⟨p, 4, none⟩ = some (.map (some i.bh))
theorem Blk.disk {i : DiskIn} (h : Blk w p 81 (diskCells d i)) : DiskSeen p d w i := ⟨h.cell rfl, h.cell rfl, h.cell rfl, h.cell rfl, h.cell rfl⟩
/-- look-up in what is seen. -/
theorem Held.seen_at (h : Held w0 w (rDisk p d :: B)) : ∃ i, Blk w p 81 (diskCells d i) ∧ ∀ (name : Bytes), name.length ≤ 9223372036854775807 →
    (match Dict.get d.seen name with
    | none => ∀ w', Mod (fun _ => False) w w' → (Instr.lookup 77 (.map (some i.bs)) (sv name) false).run Tryz.prog w' = .ok (.pointer none) w'
    | some x => ∃ b s, (∀ w', Mod (fun _ => False) w w' → (Instr.lookup 77 (.map (some i.bs)) (sv name) false).run Tryz.prog w' = .ok (.pointer (some ⟨b, 0, none⟩)) w') ∧ Blk w b 190 #[s] ∧ Rd (fun _ => True) w s (bytesV x)) := by
  obtain ⟨i, h1⟩ := h.dopen
  refine ⟨i, h1.blk0, fun name hn => ?_⟩
  obtain ⟨ys, hp, h2⟩ := Held.files_open (A := []) h1.pull1
  cases hg : Dict.get d.seen name with
  | none =>
    simp only
    intro w' hm
    exact (Held.files_none (A := []) (h2.step hm) hp hn hg).1 false
  | some x =>
    simp only
    obtain ⟨ys1, ys2, b, s, hys, hlk, h3⟩ := Held.files_some (A := []) h2 hp hn hg
    refine ⟨b, s, fun w' hm => ?_, Held.blk (l1 := [_, _]) h3, Held.bytes (l1 := [_, _, _]) h3⟩
    obtain ⟨ys1', ys2', b', s', hys', hlk', -⟩ := Held.files_some (A := []) (h2.step hm) hp hn hg
    have he : b' = b := by
      rw [hys] at hys'
      have h1 : ((name, x), Value.pointer (some ⟨b, 0, none⟩)) ∈ ys := by rw [hys]; simp
      have h2' : ((name, x), Value.pointer (some ⟨b', 0, none⟩)) ∈ ys := by rw [hys, hys']; simp
      have hnd := h2.mapAt.nodup
      have m1 : (sv name, Value.pointer (some ⟨b, 0, none⟩)) ∈ filesL ys := List.mem_map.2 ⟨_, h1, rfl⟩
      have m2 : (sv name, Value.pointer (some ⟨b', 0, none⟩)) ∈ filesL ys := List.mem_map.2 ⟨_, h2', rfl⟩
      have := uniq_val hnd m1 m2
      injection this with this
      injection this with this
      injection this with this
      exact this.symm
    have := hlk' false
    simp only [Bool.false_eq_true, if_false, he] at this
    exact this
end
end Go.Proofs.YtdbhccehbjhbpaaGreatDoor

/- disk: look, Used, Pending, Room over a held disk. -/
namespace Go.Proofs.YtdbhccehbjhbpaaGreatDoor
open Go.RowKit
open Disk

/-- what a look finds. -/
def LookPost (w0 : World) (B : List Res) (p : Nat) (d : Dk) (name : Bytes) (e : Ending) (w' : World) : Prop :=
  Held w0 w' (rDisk p d :: B) ∧
  (match Dict.get d.seen name with
  | none => e = .returned (.tuple #[.pointer none, .int .i64 (if may name = false then 6 else 20)])
  | some x => if may name = false then e = .returned (.tuple #[.pointer none, .int .i64 6]) else
    ∃ b s, e = .returned (.tuple #[.pointer (some ⟨b, 0, none⟩), .int .i64 0]) ∧ w'.cell? ⟨b, 0, none⟩ = some s ∧ Rd (fun _ => True) w' s (bytesV x))

theorem look_held {w0 w : World} {B : List Res} {p : Nat} {d : Dk} (h : Held w0 w (rDisk p d :: B)) (name : Bytes) (hn : name.length ≤ 9223372036854775807) :
    Calls Tryz.prog 122 #[.pointer (some ⟨p, 0, none⟩), sv name] w (LookPost w0 B p d name) := by
  obtain ⟨i, hb, hs⟩ := h.seen_at
  have hs := hs name hn
  unfold LookPost
  cases hg : Dict.get d.seen name with
  | none =>
    rw [hg] at hs
    exact (dlook_none w p i.bs name hn hb.disk.c1 hs).mono fun e w' ⟨he, hm⟩ => ⟨h.step hm, he⟩
  | some x =>
    rw [hg] at hs
    obtain ⟨b, s, hl, hbb, hr⟩ := hs
    refine (dlook_some w p i.bs b name hn hb.disk.c1 hl).mono fun e w' ⟨he, hm⟩ => ⟨h.step hm, ?_⟩
    simp only
    split
    · rename_i hmay
      rw [he, if_pos hmay]
    · rename_i hmay
      rw [if_neg hmay] at he
      exact ⟨b, s, he, hm.cell (hbb.cell rfl) (fun h => h), hr.mod hm (fun _ _ h => h)⟩

/-! ### Used -/
def sumV (l : List (Value × Value)) : Int := (l.map fun p => intOf p.2).sum
theorem sumV_perm {l m : List (Value × Value)} (h : l.Perm m) : sumV l = sumV m := by
  unfold sumV
  induction h with
  | nil => rfl
  | cons _ _ ih => simp [ih]
  | swap _ _ _ => simp; omega
  | trans _ _ ih1 ih2 => exact ih1.trans ih2
theorem sumV_held (h : Dict Nat) : sumV (heldL h) = (used h : Nat) := by
  induction h with
  | nil => rfl
  | cons p h ih =>
    rw [used_cons]
    have e : sumV (heldL (p :: h)) = p.2 + sumV (heldL h) := by simp [sumV, heldL, intOf]
    rw [e, ih]
    simp
def UsedAt (w0 : World) (B : List Res) (it bm : Nat) (h : Dict Nat) (m : Int) (w : World) (n : Nat) : Prop :=
  ∃ todo, todo.length = n ∧ (∀ p ∈ todo, p ∈ heldL h) ∧ 0 ≤ m ∧ m + sumV todo = (used h : Nat) ∧ Held w0 w (rIter Tryz.prog 9 it bm (heldL h) todo :: B)
theorem sumV_nonneg {h : Dict Nat} : ∀ {todo : List (Value × Value)}, (∀ p ∈ todo, p ∈ heldL h) → 0 ≤ sumV todo
  | [], _ => Int.le_refl _
  | p :: l, hl => by
    obtain ⟨x, _, rfl⟩ := List.mem_map.1 (hl p (by simp))
    have := sumV_nonneg (todo := l) fun q hq => hl q (by simp [hq])
    have e : sumV ((sv x.1, Value.int .i64 x.2) :: l) = x.2 + sumV l := by simp [sumV, intOf]
    rw [e]
    omega

set_option maxRecDepth 100000 in
set_option maxHeartbeats 2000000 in
theorem used_held {w0 w : World} {B : List Res} {p : Nat} {d : Dk} (h : Held w0 w (rDisk p d :: B)) (hu : used d.held ≤ 1000000000000) :
    Calls Tryz.prog 128 #[.pointer (some ⟨p, 0, none⟩)] w fun e w' => e = .returned (.int .i64 (used d.held : Nat)) ∧ Held w0 w' (rDisk p d :: B) := by
  obtain ⟨i, h1⟩ := h.dopen
  obtain ⟨c0, c1, c2, c3, c4⟩ := h1.blk0.disk
  have HM := hid (dmade_any w p (some i.bs) c1)
  have HR := hid (Held.range (A := []) Tryz.underlying79 h1.pull4)
  clear h h1 c0 c1 c2 c3
  go_enter Tryz.func128, Tryz.ntmps128
  go_wp2_with (first
    | (go_at_call 147; refine HM.out.mono ?_; rintro e w' ⟨rfl, rfl⟩)
    | (at_range; refine wpList_range_ex _ rfl _ 79 rfl (.map (some i.bh)) rfl _ _ HR.out ?c1))
  case c1 =>
    intro w1 hP
    have HB := hid (show UsedAt w0 _ w.heap.size i.bh d.held 0 w1 _ from ⟨heldL d.held, rfl, fun _ h => h, Int.le_refl _, by rw [sumV_held]; simp, hP⟩)
    clear hP HR
    generalize w.heap.size = it at *
    go_wp2_with fail
    go_loopw [3] (fun z wr => ∃ m : Int, z = .int .i64 m ∧ ∃ n, UsedAt w0 (rBlk p 81 (diskCells d i) :: rFiles i.bs d.seen :: rFiles i.bl d.lasting :: rActs i.vp d.pending :: B) it i.bh d.held m wr n) (fun _ wr => wr.rangeLeft i.bh it)
    case atStart => exact ⟨0, rfl, _, HB.out⟩
    case round =>
      obtain ⟨m, rfl, n, todo, hn, hsub, h0, hsum, hh⟩ := hrel
      have HN := hid hh.next0
      have HI := hid (And.intro hsub (And.intro hsum hh))
      have hle : m ≤ 1000000000000 := by have := sumV_nonneg hsub; omega
      clear hsub hsum hh hn
      go_wp2_with (at_next; refine wpList_next_ex _ rfl _ rfl _ rfl _ _ HN.out ?c0 ?c1)
      case c0 =>
        rintro rfl
        go_wp2_with fail
        go_ret
        obtain ⟨hsub, hsum, hh⟩ := HI.out
        have hm : m = (used d.held : Nat) := by simpa [sumV] using hsum
        rw [hm]
        exact ⟨rfl, Held.dshut i (Held.push4 (Held.range_end (A := []) hh))⟩
      case c1 =>
        intro k v w2 hP
        obtain ⟨todo', hpm, hmem, hen, h2⟩ := hP
        obtain ⟨hsub, hsum, hh⟩ := HI.out
        obtain ⟨x, -, hx⟩ := List.mem_map.1 hmem
        injection hx with hx1 hx2
        subst hx1 hx2
        have hs' : ∀ q ∈ todo', q ∈ heldL d.held := fun q hq => hsub q (hpm.mem_iff.2 (by simp [hq]))
        have hsm : m + (x.2 : Int) + sumV todo' = (used d.held : Nat) := by
          rw [sumV_perm hpm] at hsum
          have e : sumV ((sv x.1, Value.int .i64 x.2) :: todo') = x.2 + sumV todo' := by simp [sumV, intOf]
          rw [e] at hsum
          omega
        have hnn := sumV_nonneg hs'
        have l1 := (Held.iterAt (A := []) hh).left
        have l2 := (Held.iterAt (A := []) h2).left
        have HJ := hid (show UsedAt w0 _ it i.bh d.held (m + (x.2 : Int)) w2 _ from ⟨todo', rfl, hs', by omega, hsm, h2⟩)
        have HL := hid (show w2.rangeLeft i.bh it < wr.rangeLeft i.bh it by rw [l1, l2, hpm.length_eq]; simp)
        have hb1 : m + (x.2 : Int) ≤ 1000000000000 := by omega
        have hb0 : (0 : Int) ≤ m + (x.2 : Int) := by omega
        clear hsub hsum hh hpm hmem h2 hs' hsm hnn l1 l2 HI HN
        go_wp2_with fail
        exact ⟨⟨_, rfl, _, HJ.out⟩, HL.out⟩


end Go.Proofs.YtdbhccehbjhbpaaGreatDoor

/- disk: Read, Cut, Drop, Write over a held disk. -/
namespace Go.Proofs.YtdbhccehbjhbpaaGreatDoor
open Go.RowKit
open Disk


section
variable {w0 w : World} {B : List Res} {p : Nat} {d : Dk}
theorem look_bad (h : Held w0 w (rDisk p d :: B)) {name : Bytes} (hn : name.length ≤ 9223372036854775807) (hm : may name = false) :
    Calls Tryz.prog 122 #[.pointer (some ⟨p, 0, none⟩), sv name] w fun e w' => e = .returned (.tuple #[.pointer none, .int .i64 6]) ∧ Held w0 w' (rDisk p d :: B) := by
  refine (look_held h name hn).mono ?_
  rintro e w' ⟨hh, he⟩
  refine ⟨?_, hh⟩
  cases hg : Dict.get d.seen name with
  | none => rw [hg] at he; simpa [hm] using he
  | some x => rw [hg] at he; simpa [hm] using he
theorem look_miss (h : Held w0 w (rDisk p d :: B)) {name : Bytes} (hn : name.length ≤ 9223372036854775807) (hm : may name = true) (hg : Dict.get d.seen name = none) :
    Calls Tryz.prog 122 #[.pointer (some ⟨p, 0, none⟩), sv name] w fun e w' => e = .returned (.tuple #[.pointer none, .int .i64 20]) ∧ Held w0 w' (rDisk p d :: B) := by
  refine (look_held h name hn).mono ?_
  rintro e w' ⟨hh, he⟩
  refine ⟨?_, hh⟩
  rw [hg] at he
  simpa [hm] using he
theorem look_hit (h : Held w0 w (rDisk p d :: B)) {name x : Bytes} (hn : name.length ≤ 9223372036854775807) (hm : may name = true) (hg : Dict.get d.seen name = some x) :
    Calls Tryz.prog 122 #[.pointer (some ⟨p, 0, none⟩), sv name] w fun e w' => ∃ b A c, e = .returned (.tuple #[.pointer (some ⟨b, 0, none⟩), .int .i64 0]) ∧
      w'.cell? ⟨b, 0, none⟩ = some (.slice A x.length c) ∧ x.length ≤ c ∧ c ≤ 9223372036854775807 ∧ Rd (fun _ => True) w' (.slice A x.length c) (bytesV x) ∧ Held w0 w' (rDisk p d :: B) := by
  refine (look_held h name hn).mono ?_
  rintro e w' ⟨hh, he⟩
  rw [hg] at he
  simp only [hm, Bool.true_eq_false, if_false] at he
  obtain ⟨b, s, he, hc, hr⟩ := he
  obtain ⟨A, c, hv, q1, q2, _⟩ := id hr
  rw [bytesV_length] at hv q1
  subst hv
  exact ⟨b, A, c, he, hc, q1, q2, hr, hh⟩
theorem Held.view (h : Held w0 w (rDisk p d :: B)) : ∃ i, DiskSeen p d w i ∧ (∀ ty, (Builtin.len_ #[77] ty #[.map (some i.bs)]).run Tryz.prog w = .ok (.int .i64 d.seen.length) w) ∧
    (∀ name : Bytes, name.length ≤ 9223372036854775807 → (Instr.lookup 79 (.map (some i.bh)) (sv name) false).run Tryz.prog w = .ok (.int .i64 ((Dict.get d.held name).getD 0 : Nat)) w) := by
  obtain ⟨i, h1⟩ := h.dopen
  refine ⟨i, h1.blk0.disk, fun ty => ?_, fun name hn => Held.held_lookup (A := [_, _, _, _]) h1 hn⟩
  obtain ⟨ys, hp, h2⟩ := Held.files_open (A := []) h1.pull1
  have := h2.mapAt.run_len Tryz.underlying77 ty
  rw [this]
  have hl : (filesL ys).length = d.seen.length := by rw [← hp.length_eq]; simp [filesL]
  rw [hl]
theorem Held.room_cell (h : Held w0 w (rDisk p d :: B)) : w.cell? ⟨p, 0, none⟩ = some (.int .i64 d.room) := by
  obtain ⟨i, hs, _⟩ := h.view
  exact hs.c0
theorem Dk.Ok.len (hok : d.Ok) {n x : Bytes} (h : Dict.get d.seen n = some x) : x.length ≤ 16777216 := by
  have := (hok.seenLe n x h).2
  have := hok.hold_room n
  have := hok.room
  omega

set_option maxRecDepth 100000 in
theorem read_held (h : Held w0 w (rDisk p d :: B)) (hok : d.Ok) (name : Bytes) (hn : name.length ≤ 9223372036854775807) :
    Calls Tryz.prog 98 #[.pointer (some ⟨p, 0, none⟩), sv name] w fun e w' => ∃ v, e = .returned (.tuple #[v, .int .i64 (d.read name).2]) ∧ Held w0 w' (rBytes v (d.read name).1 :: rDisk p d :: B) := by
  cases hm : may name with
  | false =>
    have HE := hid (show d.read name = ([], 6) by unfold Dk.read; rw [if_pos hm])
    have HL := hid (look_bad h hn hm)
    clear h hm
    go_enter Tryz.func98, Tryz.ntmps98
    go_wp2_with fail
    refine HL.out.mono ?_
    rintro e w1 ⟨rfl, g1⟩
    have G1 := hid g1
    clear g1
    go_wp2_with fail
    go_ret2
    rw [HE.out]
    exact ⟨_, rfl, G1.out.nil_own _⟩
  | true =>
    cases hg : Dict.get d.seen name with
    | none =>
      have HE := hid (show d.read name = ([], 20) by unfold Dk.read; rw [hm, hg]; rfl)
      have HL := hid (look_miss h hn hm hg)
      clear h hm hg
      go_enter Tryz.func98, Tryz.ntmps98
      go_wp2_with fail
      refine HL.out.mono ?_
      rintro e w1 ⟨rfl, g1⟩
      have G1 := hid g1
      clear g1
      go_wp2_with fail
      go_ret2
      rw [HE.out]
      exact ⟨_, rfl, G1.out.nil_own _⟩
    | some x =>
      have HE := hid (show d.read name = (x, 0) by unfold Dk.read; rw [hm, hg]; rfl)
      have HL := hid (look_hit h hn hm hg)
      have hx := Dk.Ok.len hok hg
      clear h hm hg
      go_enter Tryz.func98, Tryz.ntmps98
      go_wp2_with fail
      refine HL.out.mono ?_
      rintro e w1 ⟨b, A, c, rfl, hc, q1, q2, hr, g1⟩
      have CL := hid (clone_held g1 (fun _ => True) _ x hr (by omega))
      clear g1 hr
      go_wp2_with fail
      refine CL.out.mono ?_
      rintro e w2 ⟨v, rfl, g2⟩
      have G2 := hid g2
      clear g2
      go_wp2_with fail
      go_ret2
      rw [HE.out]
      exact ⟨v, rfl, G2.out⟩

/-- do, its deed laid open. -/
theorem do_call (k : Nat) (name : Bytes) (i : Nat) (b : Bytes) (bA : Option Addr) (bc : Nat) (h : Held w0 w (rBytes (.slice bA b.length bc) b :: rDisk p d :: B)) (hok : d.Ok)
    (hn : name.length ≤ 9223372036854775807) (hk : k ≤ 2) (hsz : i + b.length ≤ 1073741824) (hpl : d.pending.length ≤ 1000000) :
    Calls Tryz.prog 129 #[.pointer (some ⟨p, 0, none⟩), .agg #[.int .i64 (k : Nat), sv name, .int .i64 (i : Nat), .slice bA b.length bc]] w fun e w' => e = .returned (.tuple #[]) ∧ Held w0 w' (rDisk p (d.act ⟨k, name, i, b⟩) :: B) :=
  ddo_held (A := []) ⟨k, name, i, b⟩ bA bc h hn hk hsz (by omega) (fun x hx => by have := Dk.Ok.len hok hx; omega)

set_option maxRecDepth 100000 in
theorem cut_held (h : Held w0 w (rDisk p d :: B)) (hok : d.Ok) (hpl : d.pending.length ≤ 1000000) (name : Bytes) (hn : name.length ≤ 9223372036854775807) (n : Int) :
    Calls Tryz.prog 101 #[.pointer (some ⟨p, 0, none⟩), sv name, .int .i64 n] w fun e w' => e = .returned (.int .i64 (d.cut name n).2) ∧ Held w0 w' (rDisk p (d.cut name n).1 :: B) := by
  cases hm : may name with
  | false =>
    have HE := hid (show d.cut name n = (d, 6) by unfold Dk.cut; rw [if_pos hm])
    have HL := hid (look_bad h hn hm)
    clear h hm
    go_enter Tryz.func101, Tryz.ntmps101
    go_wp2_with fail
    refine HL.out.mono ?_
    rintro e w1 ⟨rfl, g1⟩
    have G1 := hid g1
    clear g1
    go_wp2_with fail
    go_ret
    rw [HE.out]
    exact ⟨rfl, G1.out⟩
  | true =>
    cases hg : Dict.get d.seen name with
    | none =>
      have HE := hid (show d.cut name n = (d, 20) by unfold Dk.cut; rw [hm, hg]; rfl)
      have HL := hid (look_miss h hn hm hg)
      clear h hm
      go_enter Tryz.func101, Tryz.ntmps101
      go_wp2_with fail
      refine HL.out.mono ?_
      rintro e w1 ⟨rfl, g1⟩
      have G1 := hid g1
      clear g1
      go_wp2_with fail
      go_ret
      rw [HE.out]
      exact ⟨rfl, G1.out⟩
    | some x =>
      have HL := hid (look_hit h hn hm hg)
      have hx := Dk.Ok.len hok hg
      have HK := hid hok
      by_cases hb : n < 0 ∨ n > x.length
      · have HE := hid (show d.cut name n = (d, 1) by unfold Dk.cut; rw [hm, hg]; simp only [Bool.true_eq_false, if_false]; rw [if_pos hb])
        clear h hm hg hok
        rcases hb with hb | hb
        all_goals
          go_enter Tryz.func101, Tryz.ntmps101
          go_wp2_with fail
          refine HL.out.mono ?_
          rintro e w1 ⟨b, A, c, rfl, hc, q1, q2, hr, g1⟩
          have G1 := hid g1
          clear g1 hr
          go_wp2_with fail
          go_ret
          rw [HE.out]
          exact ⟨rfl, G1.out⟩
      · obtain ⟨k, rfl⟩ := Int.eq_ofNat_of_zero_le (a := n) (by omega)
        have hkx : k ≤ x.length := by omega
        have HE := hid (show d.cut name (k : Int) = (d.act ⟨1, name, k, []⟩, 0) by unfold Dk.cut; rw [hm, hg]; simp only [Bool.true_eq_false, if_false]; rw [if_neg hb]; rfl)
        clear h hm hg hok hb
        unfold sv at HL ⊢
        go_enter Tryz.func101, Tryz.ntmps101
        go_wp2_with fail
        refine HL.out.mono ?_
        rintro e w1 ⟨b, A, c, rfl, hc, q1, q2, hr, g1⟩
        have CD := hid (do_call 1 name k [] none 0 (g1.nil_own _) HK.out hn (by decide) (by simp; omega) hpl)
        unfold sv at CD
        clear g1 hr
        go_wp2_with fail
        refine CD.out.mono ?_
        rintro e w2 ⟨rfl, g2⟩
        have G2 := hid g2
        clear g2
        go_wp2_with fail
        go_ret
        rw [HE.out]
        exact ⟨rfl, G2.out⟩

set_option maxRecDepth 100000 in
theorem drop_held (h : Held w0 w (rDisk p d :: B)) (hok : d.Ok) (hpl : d.pending.length ≤ 1000000) (name : Bytes) (hn : name.length ≤ 9223372036854775807) :
    Calls Tryz.prog 100 #[.pointer (some ⟨p, 0, none⟩), sv name] w fun e w' => e = .returned (.int .i64 (d.drop name).2) ∧ Held w0 w' (rDisk p (d.drop name).1 :: B) := by
  cases hm : may name with
  | false =>
    have HE := hid (show d.drop name = (d, 6) by unfold Dk.drop; rw [if_pos hm])
    have HL := hid (look_bad h hn hm)
    clear h hm
    go_enter Tryz.func100, Tryz.ntmps100
    go_wp2_with fail
    refine HL.out.mono ?_
    rintro e w1 ⟨rfl, g1⟩
    have G1 := hid g1
    clear g1
    go_wp2_with fail
    go_ret
    rw [HE.out]
    exact ⟨rfl, G1.out⟩
  | true =>
    cases hg : Dict.get d.seen name with
    | none =>
      have HE := hid (show d.drop name = (d, 20) by unfold Dk.drop; rw [hm, hg]; rfl)
      have HL := hid (look_miss h hn hm hg)
      clear h hm
      go_enter Tryz.func100, Tryz.ntmps100
      go_wp2_with fail
      refine HL.out.mono ?_
      rintro e w1 ⟨rfl, g1⟩
      have G1 := hid g1
      clear g1
      go_wp2_with fail
      go_ret
      rw [HE.out]
      exact ⟨rfl, G1.out⟩
    | some x =>
      have HL := hid (look_hit h hn hm hg)
      have HK := hid hok
      have HE := hid (show d.drop name = (d.act ⟨2, name, 0, []⟩, 0) by unfold Dk.drop; rw [hm, hg]; rfl)
      clear h hm hg hok
      unfold sv at HL ⊢
      go_enter Tryz.func100, Tryz.ntmps100
      go_wp2_with fail
      refine HL.out.mono ?_
      rintro e w1 ⟨b, A, c, rfl, hc, q1, q2, hr, g1⟩
      have CD := hid (do_call 2 name 0 [] none 0 (g1.nil_own _) HK.out hn (by decide) (by simp) hpl)
      unfold sv at CD
      clear g1 hr
      go_wp2_with fail
      refine CD.out.mono ?_
      rintro e w2 ⟨rfl, g2⟩
      have G2 := hid g2
      clear g2
      go_wp2_with fail
      go_ret
      rw [HE.out]
      exact ⟨rfl, G2.out⟩

set_option maxRecDepth 100000 in
set_option maxHeartbeats 1000000 in
theorem write_held (h : Held w0 w (rDisk p d :: B)) (hok : d.Ok) (hpl : d.pending.length ≤ 1000000) (name : Bytes) (hn : name.length ≤ 9223372036854775807) (bs : Bytes) (bA : Option Addr) (bc : Nat)
    (hb : Src w0 [] B (.slice bA bs.length bc) (bytesV bs)) (hbl : bs.length ≤ 1000000000) :
    Calls Tryz.prog 73 #[.pointer (some ⟨p, 0, none⟩), sv name, .slice bA bs.length bc] w fun e w' => e = .returned (.int .i64 (d.write name bs).2) ∧ Held w0 w' (rDisk p (d.write name bs).1 :: B) := by
  have hroom := hok.room
  have hfits := hok.fits
  cases hm : may name with
  | false =>
    have HE := hid (show d.write name bs = (d, 6) by unfold Dk.write; rw [if_pos hm])
    have HL := hid (look_bad h hn hm)
    clear h hm
    go_enter Tryz.func73, Tryz.ntmps73
    go_wp2_with fail
    refine HL.out.mono ?_
    rintro e w1 ⟨rfl, g1⟩
    have G1 := hid g1
    clear g1
    go_wp2_with fail
    go_ret
    rw [HE.out]
    exact ⟨rfl, G1.out⟩
  | true =>
    cases hg : Dict.get d.seen name with
    | none =>
      by_cases hfull : 4096 ≤ d.seen.length
      · have HE := hid (show d.write name bs = (d, 7) by unfold Dk.write; rw [hm, hg]; simp [hfull])
        have HL := hid (look_miss h hn hm hg)
        clear h hm
        go_enter Tryz.func73, Tryz.ntmps73
        go_wp2_with fail
        refine HL.out.mono ?_
        rintro e w1 ⟨rfl, g1⟩
        obtain ⟨i, hs, hlen, hlk⟩ := g1.view
        obtain ⟨c0, c1, c2, c3, c4⟩ := hs
        have G1 := hid g1
        clear g1 hlk hg
        go_wp2_with fail
        go_ret
        rw [HE.out]
        exact ⟨rfl, G1.out⟩
      · have hfull' : d.seen.length < 4096 := by omega
        have HE := hid (show d.write name bs = d.writeAt name 0 bs by unfold Dk.write; rw [hm, hg]; simp [hfull])
        have hat : 0 ≤ (Dict.get d.held name).getD 0 := Nat.zero_le _
        have hhr : (Dict.get d.held name).getD 0 ≤ used d.held := hold_le hok.heldOk name
        have HL := hid (look_miss h hn hm hg)
        have HK := hid hok
        clear h hm hg hok
        generalize hho : (Dict.get d.held name).getD 0 = ho at *
        generalize hus : used d.held = us at *
        generalize hrm : d.room = rm at *
        have s1 : IntKind.i64.wrap ((rm : Int) - us) = (rm : Int) - us := IntWalk.i64_in _ (by omega)
        have s2 : IntKind.i64.wrap ((rm : Int) - us + ho) = (rm : Int) - us + ho := IntWalk.i64_in _ (by omega)
        have s3 : IntKind.i64.wrap ((rm : Int) - us + ho) = (rm : Int) - us + ho := IntWalk.i64_in _ (by omega)
        unfold sv at HL ⊢
        by_cases hgt : (bs.length : Int) > (rm : Int) - us + ho
        · have HR := hid (show d.writeAt name 0 bs = (d, 7) by unfold Dk.writeAt; rw [if_pos (by rw [hho, hus, hrm]; omega)])
          have hgt' : decide ((rm : Int) - us + ho < (bs.length : Int)) = true := decide_eq_true hgt
          go_enter Tryz.func73, Tryz.ntmps73
          go_wp2_with fail
          refine HL.out.mono ?_
          rintro e w1 ⟨rfl, g1⟩
          clear HL
          obtain ⟨i, hs, hlen, hlk⟩ := g1.view
          have hlk' := hlk name hn
          unfold sv at hlk'
          obtain ⟨c0, c1, c2, c3, c4⟩ := hs
          have HU := hid (used_held g1.drew (by omega))
          have G1 := hid g1
          rw [hho] at hlk'
          rw [hus] at HU
          rw [hrm] at c0
          clear g1 hlk hho hus
          go_wp2_with fail
          go_region_held3 (fun w' => w'.cell? ⟨p, 0, none⟩ = some (.int .i64 rm))
            (first | exact c0 | exact d0)
            (first
              | (go_at_call 128; refine HU.out.mono ?_; rintro e w2 ⟨rfl, g2⟩; have d0 := g2.room_cell; rw [hrm] at d0; have G2 := hid g2; clear g2))
          all_goals
            go_wp2_with fail
            go_ret
            rw [HE.out, HR.out]
            exact ⟨rfl, G2.out⟩
        · have HR := hid (show d.writeAt name 0 bs = (d.act ⟨0, name, 0, bs⟩, 0) by unfold Dk.writeAt; rw [if_neg (by rw [hho, hus, hrm]; omega)])
          have hgt' : decide ((rm : Int) - us + ho < (bs.length : Int)) = false := decide_eq_false hgt
          go_enter Tryz.func73, Tryz.ntmps73
          go_wp2_with fail
          refine HL.out.mono ?_
          rintro e w1 ⟨rfl, g1⟩
          clear HL
          obtain ⟨i, hs, hlen, hlk⟩ := g1.view
          have hlk' := hlk name hn
          unfold sv at hlk'
          obtain ⟨c0, c1, c2, c3, c4⟩ := hs
          have HU := hid (used_held g1.drew (by omega))
          have G1 := hid g1
          rw [hho] at hlk'
          rw [hus] at HU
          rw [hrm] at c0
          clear g1 hlk hho hus
          go_wp2_with fail
          go_region_held3 (fun w' => w'.cell? ⟨p, 0, none⟩ = some (.int .i64 rm))
            (first | exact c0 | exact d0)
            (first
              | (go_at_call 128; refine HU.out.mono ?_; rintro e w2 ⟨rfl, g2⟩; have d0 := g2.room_cell; rw [hrm] at d0; have G2 := hid g2; clear g2))
          all_goals
            have CC := hid (clone_held G2.out (fun _ => True) _ bs (hb w2 [rDisk p d] G2.out) (by omega))
            have hsz : 0 + bs.length ≤ 1073741824 := by omega
            clear s1 s2 s3 hgt hgt'
            go_wp2_with fail
            refine CC.out.mono ?_
            rintro e w3 ⟨v3, rfl, g3⟩
            obtain ⟨vA, vc, rfl, -, -⟩ := Held.form (l1 := []) g3
            have CD := hid (do_call 0 name 0 bs vA vc g3 HK.out hn (by decide) hsz hpl)
            unfold sv at CD
            clear g3
            go_wp2_with fail
            refine CD.out.mono ?_
            rintro e w4 ⟨rfl, g4⟩
            have G4 := hid g4
            clear g4
            go_wp2_with fail
            go_ret
            rw [HE.out, HR.out]
            exact ⟨rfl, G4.out⟩
    | some x =>
      have hx := Dk.Ok.len hok hg
      have HE := hid (show d.write name bs = d.writeAt name x.length bs by unfold Dk.write; rw [hm, hg]; rfl)
      have hat : x.length ≤ (Dict.get d.held name).getD 0 := (hok.seenLe name x hg).2
      have hhr : (Dict.get d.held name).getD 0 ≤ used d.held := hold_le hok.heldOk name
      have HL := hid (look_hit h hn hm hg)
      have HK := hid hok
      clear h hm hg hok
      generalize hho : (Dict.get d.held name).getD 0 = ho at *
      generalize hus : used d.held = us at *
      generalize hrm : d.room = rm at *
      have s1 : IntKind.i64.wrap ((rm : Int) - us) = (rm : Int) - us := IntWalk.i64_in _ (by omega)
      have s2 : IntKind.i64.wrap ((rm : Int) - us + ho) = (rm : Int) - us + ho := IntWalk.i64_in _ (by omega)
      have s3 : IntKind.i64.wrap ((rm : Int) - us + ho - (x.length : Int)) = (rm : Int) - us + ho - (x.length : Int) := IntWalk.i64_in _ (by omega)
      unfold sv at HL ⊢
      by_cases hgt : (bs.length : Int) > (rm : Int) - us + ho - (x.length : Int)
      · have HR := hid (show d.writeAt name x.length bs = (d, 7) by unfold Dk.writeAt; rw [if_pos (by rw [hho, hus, hrm]; omega)])
        have hgt' : decide ((rm : Int) - us + ho - (x.length : Int) < (bs.length : Int)) = true := decide_eq_true hgt
        go_enter Tryz.func73, Tryz.ntmps73
        go_wp2_with fail
        refine HL.out.mono ?_
        rintro e w1 ⟨b, A, c, rfl, hc, q1, q2, hr, g1⟩
        clear HL hr
        obtain ⟨i, hs, hlen, hlk⟩ := g1.view
        have hlk' := hlk name hn
        unfold sv at hlk'
        obtain ⟨c0, c1, c2, c3, c4⟩ := hs
        have HU := hid (used_held g1.drew (by omega))
        have G1 := hid g1
        rw [hho] at hlk'
        rw [hus] at HU
        rw [hrm] at c0
        clear g1 hlk hho hus
        go_wp2_with fail
        go_region_held3 (fun w' => w'.cell? ⟨p, 0, none⟩ = some (.int .i64 rm))
          (first | exact c0 | exact d0)
          (first
            | (go_at_call 128; refine HU.out.mono ?_; rintro e w2 ⟨rfl, g2⟩; have d0 := g2.room_cell; rw [hrm] at d0; have G2 := hid g2; clear g2))
        all_goals
          go_wp2_with fail
          go_ret
          rw [HE.out, HR.out]
          exact ⟨rfl, G2.out⟩
      · have HR := hid (show d.writeAt name x.length bs = (d.act ⟨0, name, x.length, bs⟩, 0) by unfold Dk.writeAt; rw [if_neg (by rw [hho, hus, hrm]; omega)])
        have hgt' : decide ((rm : Int) - us + ho - (x.length : Int) < (bs.length : Int)) = false := decide_eq_false hgt
        go_enter Tryz.func73, Tryz.ntmps73
        go_wp2_with fail
        refine HL.out.mono ?_
        rintro e w1 ⟨b, A, c, rfl, hc, q1, q2, hr, g1⟩
        clear HL hr
        obtain ⟨i, hs, hlen, hlk⟩ := g1.view
        have hlk' := hlk name hn
        unfold sv at hlk'
        obtain ⟨c0, c1, c2, c3, c4⟩ := hs
        have HU := hid (used_held g1.drew (by omega))
        have G1 := hid g1
        rw [hho] at hlk'
        rw [hus] at HU
        rw [hrm] at c0
        clear g1 hlk hho hus
        go_wp2_with fail
        go_region_held3 (fun w' => w'.cell? ⟨p, 0, none⟩ = some (.int .i64 rm))
          (first | exact c0 | exact d0)
          (first
            | (go_at_call 128; refine HU.out.mono ?_; rintro e w2 ⟨rfl, g2⟩; have d0 := g2.room_cell; rw [hrm] at d0; have G2 := hid g2; clear g2))
        all_goals
          have CC := hid (clone_held G2.out (fun _ => True) _ bs (hb w2 [rDisk p d] G2.out) (by omega))
          have hsz : x.length + bs.length ≤ 1073741824 := by omega
          clear s1 s2 s3 hgt hgt'
          go_wp2_with fail
          refine CC.out.mono ?_
          rintro e w3 ⟨v3, rfl, g3⟩
          obtain ⟨vA, vc, rfl, -, -⟩ := Held.form (l1 := []) g3
          have CD := hid (do_call 0 name x.length bs vA vc g3 HK.out hn (by decide) hsz hpl)
          unfold sv at CD
          clear g3
          go_wp2_with fail
          refine CD.out.mono ?_
          rintro e w4 ⟨rfl, g4⟩
          have G4 := hid g4
          clear g4
          go_wp2_with fail
          go_ret
          rw [HE.out, HR.out]
          exact ⟨rfl, G4.out⟩
end
end Go.Proofs.YtdbhccehbjhbpaaGreatDoor

/- disk: the acts' row, opened and read; the two questions of settle. -/
namespace Go.Proofs.YtdbhccehbjhbpaaGreatDoor
open Go.RowKit
open Disk

theorem flatten_at {α : Type} {k : Nat} : ∀ {rows : List (List α)} {j m : Nat} {r : List α}, (∀ r ∈ rows, r.length = k) → rows[j]? = some r → m < k → rows.flatten[j * k + m]? = r[m]?
  | [], j, m, r, _, h, _ => by simp at h
  | r0 :: rows, 0, m, r, hl, h, hm => by
    simp at h
    subst h
    rw [List.flatten_cons, Nat.zero_mul, Nat.zero_add, List.getElem?_append_left (by rw [hl r0 (by simp)]; exact hm)]
  | r0 :: rows, j + 1, m, r, hl, h, hm => by
    have h0 := hl r0 (by simp)
    have e : (j + 1) * k + m - r0.length = j * k + m := by rw [h0, Nat.succ_mul]; omega
    rw [List.flatten_cons, List.getElem?_append_right (by rw [h0, Nat.succ_mul]; omega), e]
    exact flatten_at (fun r hr => hl r (by simp [hr])) (by simpa using h) hm

section
variable {w0 w : World} {B : List Res}
theorem Held.row_at {k : Nat} {e : TypeId} {v : Value} {rows : List (List Value)} (h : Held w0 w (rRows k e v rows :: B)) {j : Nat} {r : List Value} (hj : rows[j]? = some r) :
    ∃ g c, v = .slice (some ⟨g, 0, none⟩) rows.length c ∧ rows.length ≤ c ∧ c ≤ 9223372036854775807 ∧ ∀ m u, r[m]? = some u → w.cell? ⟨g, j * k + m, none⟩ = some u := by
  obtain ⟨F, hF⟩ := Held.get (l1 := []) h
  obtain ⟨hl, ⟨⟨h1, h2⟩, -⟩⟩ := hF
  have hjl : j < rows.length := (List.getElem?_eq_some_iff.1 hj).1
  rcases h2 with ⟨rfl, hz⟩ | ⟨g, cap, cur, rfl, -, hg, r1, r2, r3, r4⟩
  · omega
  · refine ⟨g, cap, rfl, r1, by unfold maxLen at r2; exact r2, fun m u hu => ?_⟩
    have hm : m < k := by
      have := (List.getElem?_eq_some_iff.1 hu).1
      rwa [hl r (List.mem_of_getElem? hj)] at this
    have hf := flatten_at hl hj hm
    rw [hu, ← r4, List.getElem?_take] at hf
    split at hf
    · simp only [World.cell?, hg, Option.isSome_none, Bool.false_eq_true, if_false]
      simpa using hf
    · cases hf

def rowOf (q : Deed × Value) : List Value := actRow q.1 q.2
def bOf (q : Deed × Value) : Value × Bytes := (q.2, q.1.b)
theorem Held.acts_open {v : Value} {l : List Deed} (h : Held w0 w (rActs v l :: B)) : ∃ ps : List (Deed × Value), ps.map (·.1) = l ∧ Held w0 w (rRows 4 185 v (ps.map rowOf) :: rBig bytesLoc (ps.map bOf) :: B) := by
  obtain ⟨bvs, hb, h1⟩ := Held.open_some (l1 := []) h
  refine ⟨l.zip bvs, by rw [List.map_fst_zip (by omega)], ?_⟩
  have e1 : (l.zip bvs).map rowOf = List.zipWith actRow l bvs := by rw [List.zip_eq_zipWith, List.map_zipWith]; rfl
  have e2 : ∀ (l : List Deed) (bvs : List Value), (l.zip bvs).map bOf = bvs.zip (l.map (·.b)) := by
    intro l
    induction l with
    | nil => intro bvs; simp
    | cons a l ih =>
      intro bvs
      cases bvs with
      | nil => rfl
      | cons v bvs => simp [bOf, ih]
  rw [e1, e2]
  exact h1
theorem Held.acts_shut {v : Value} {ps : List (Deed × Value)} (h : Held w0 w (rRows 4 185 v (ps.map rowOf) :: rBig bytesLoc (ps.map bOf) :: B)) : Held w0 w (rActs v (ps.map (·.1)) :: B) := by
  refine Held.close_some (l1 := []) (ps.map (·.2)) (by simp) ?_
  have e1 : List.zipWith actRow (ps.map (·.1)) (ps.map (·.2)) = ps.map rowOf := by
    induction ps with
    | nil => rfl
    | cons a l ih => simp [rowOf]
  have e2 : (ps.map (·.2)).zip ((ps.map (·.1)).map (·.b)) = ps.map bOf := by
    clear h e1
    induction ps with
    | nil => rfl
    | cons a l ih => simp [bOf]; simpa [bOf] using ih
  rw [e1, e2]
  exact h
/-- the bytes of one of them. -/
theorem Held.bytes_at {ps : List (Deed × Value)} (h : Held w0 w (rBig bytesLoc (ps.map bOf) :: B)) {q : Deed × Value} (hq : q ∈ ps) : Rd (fun _ => True) w q.2 (bytesV q.1.b) := by
  obtain ⟨l1, l2, hs⟩ := List.append_of_mem hq
  rw [hs, List.map_append, List.map_cons] at h
  have h1 := Held.big_split (l1 := []) bytesLoc h
  have h2 := Held.big_uncons (l1 := [rBig bytesLoc (l1.map bOf)]) bytesLoc h1
  exact Held.bytes (l1 := [rBig bytesLoc (l1.map bOf)]) h2
theorem Held.bytes_form {ps : List (Deed × Value)} (h : Held w0 w (rBig bytesLoc (ps.map bOf) :: B)) {q : Deed × Value} (hq : q ∈ ps) : ∃ A c, q.2 = .slice A q.1.b.length c ∧ q.1.b.length ≤ c ∧ c ≤ 9223372036854775807 := by
  obtain ⟨A, c, hv, q1, q2, _⟩ := h.bytes_at hq
  rw [bytesV_length] at hv q1
  exact ⟨A, c, hv, q1, by unfold maxLen at q2; exact q2⟩
end

set_option maxRecDepth 100000 in
theorem sync1_any (w : World) (a : Deed) (bA : Option Addr) (bn bc nb : Nat) (name : Bytes) (hc : w.cell? ⟨nb, 0, none⟩ = some (sv name)) :
    Calls Tryz.prog 124 #[.agg #[.int .i64 a.kind, sv a.name, .int .i64 a.at_, .slice bA bn bc], .pointer (some ⟨nb, 0, none⟩)] w fun e w' => e = .returned (.bool (a.name == name)) ∧ Mod (fun _ => False) w w' := by
  have hc' : ∀ o, (w.alloc o).cell? ⟨nb, 0, none⟩ = some (sv name) := fun o => ((Mod.refl (fun _ => False) w).alloc o).cell hc (fun h => h)
  clear hc
  unfold sv at hc' ⊢
  go_enter Tryz.func124, Tryz.ntmps124
  go_wp2_with fail
  go_ret
  exact ⟨rfl, (Mod.refl _ w).alloc _⟩

theorem flush1_any (w : World) (a : Deed) (bA : Option Addr) (bn bc : Nat) :
    Calls Tryz.prog 156 #[.agg #[.int .i64 a.kind, sv a.name, .int .i64 a.at_, .slice bA bn bc]] w fun e w' => e = .returned (.bool true) ∧ Mod (fun _ => False) w w' := by
  unfold sv
  go_enter Tryz.func156, Tryz.ntmps156
  go_wp2_with fail
  go_ret
  exact ⟨rfl, (Mod.refl _ w).alloc _⟩
end Go.Proofs.YtdbhccehbjhbpaaGreatDoor

/- disk: settle. -/
namespace Go.Proofs.YtdbhccehbjhbpaaGreatDoor
open Go.RowKit
open Disk

def yesOf (q : Deed → Bool) (ps : List (Deed × Value)) (k : Nat) : List (Deed × Value) := (ps.take k).filter fun x => q x.1
def notOf (q : Deed → Bool) (ps : List (Deed × Value)) (k : Nat) : List (Deed × Value) := (ps.take k).filter fun x => !q x.1
def lastOf (q : Deed → Bool) (ps : List (Deed × Value)) (k : Nat) (f : Files) : Files := ((yesOf q ps k).map (·.1)).foldl Files.does f
section
variable {q : Deed → Bool} {ps : List (Deed × Value)} {k : Nat} {f : Files}
theorem lastOf_yes (hk : k < ps.length) (h : q ps[k].1 = true) : lastOf q ps (k + 1) f = Files.does (lastOf q ps k f) ps[k].1 := by
  unfold lastOf yesOf
  rw [List.take_succ_eq_append_getElem hk, List.filter_append, List.filter_cons, h]
  simp
theorem lastOf_no (hk : k < ps.length) (h : q ps[k].1 = false) : lastOf q ps (k + 1) f = lastOf q ps k f := by
  unfold lastOf yesOf
  rw [List.take_succ_eq_append_getElem hk, List.filter_append, List.filter_cons, h]
  simp
theorem notOf_yes (hk : k < ps.length) (h : q ps[k].1 = true) : notOf q ps (k + 1) = notOf q ps k := by
  unfold notOf
  rw [List.take_succ_eq_append_getElem hk, List.filter_append, List.filter_cons, h]
  simp
theorem notOf_no (hk : k < ps.length) (h : q ps[k].1 = false) : notOf q ps (k + 1) = notOf q ps k ++ [ps[k]] := by
  unfold notOf
  rw [List.take_succ_eq_append_getElem hk, List.filter_append, List.filter_cons, h]
  simp
theorem notOf_le : (notOf q ps k).length ≤ ps.length := Nat.le_trans (List.length_filter_le _ _) (by rw [List.length_take]; omega)
theorem lastOf_le {d : Dk} (hok : d.Ok) (hps : ps.map (·.1) = d.pending) {n x : Bytes} (hx : Dict.get (lastOf q ps k d.lasting) n = some x) : x.length ≤ 16777216 := by
  have hl : ∀ a ∈ (yesOf q ps k).map (·.1), a.kind ≤ 2 ∧ may a.name = true ∧ a.at_ + a.b.length ≤ hold d.held a.name := fun a ha => hok.pend a (by
    obtain ⟨y, hy, rfl⟩ := List.mem_map.1 ha
    rw [← hps]
    exact List.mem_map.2 ⟨y, (List.take_subset _ _) (List.mem_filter.1 hy).1, rfl⟩)
  have := (dones_le hl hok.lastLe n x hx).2
  have := hok.hold_room n
  have := hok.room
  omega
end
theorem may_len {n : Bytes} (h : may n = true) : n.length ≤ 24 := by
  unfold may at h
  simp at h
  exact h.2.2
theorem Disk.Dk.Ok.deed {d : Dk} (hok : d.Ok) {a : Deed} (ha : a ∈ d.pending) : a.kind ≤ 2 ∧ a.name.length ≤ 9223372036854775807 ∧ a.at_ + a.b.length ≤ 16777216 := by
  obtain ⟨h1, h2, h3⟩ := hok.pend a ha
  have := hok.hold_room a.name
  have := hok.room
  have := may_len h2
  exact ⟨h1, by omega, by omega⟩

def SettleAt (w0 : World) (B : List Res) (p : Nat) (d : Dk) (i : DiskIn) (ps : List (Deed × Value)) (q : Deed → Bool) (k : Nat) (vr : Value) (w : World) : Prop :=
  Held w0 w (rBlk p 81 (diskCells d i) :: rBig bytesLoc (ps.map bOf) :: rRows 4 185 i.vp (ps.map rowOf) :: rRows 4 185 vr ((notOf q ps k).map rowOf) :: rFiles i.bl (lastOf q ps k d.lasting) :: rFiles i.bs d.seen :: rHeld i.bh d.held :: B)
theorem Held.rows_nil {w0 w : World} {B : List Res} (h : Held w0 w B) (k : Nat) (e : TypeId) : Held w0 w (rRows k e (.slice none 0 0) [] :: B) :=
  h.more (F := []) ⟨by simp, Own.nil _ _ _⟩ (Upd.refl _ (by simp))
theorem settle_start {w0 w : World} {B : List Res} {p : Nat} {d : Dk} (h : Held w0 w (rDisk p d :: B)) (q : Deed → Bool) :
    ∃ bs bl bh vA vc ps, ps.map (·.1) = d.pending ∧ ps.length ≤ vc ∧ vc ≤ 9223372036854775807 ∧ SettleAt w0 B p d ⟨bs, bl, bh, .slice vA ps.length vc⟩ ps q 0 (.slice none 0 0) w := by
  obtain ⟨⟨bs, bl, bh, vp⟩, h1⟩ := h.dopen
  obtain ⟨ps, hps, h2⟩ := Held.acts_open h1.pull3
  obtain ⟨vA, vc, hv, q1, q2⟩ := Held.rows_form (l1 := []) h2
  rw [List.length_map] at hv q1
  simp only at hv
  subst hv
  refine ⟨bs, bl, bh, vA, vc, ps, hps, q1, q2, ?_⟩
  have h3 := (h2.rows_nil 4 185)
  -- nil, rows, bytes, blk, seen, lasting, held
  have h4 := Held.pull2 (Held.pull1 h3)
  -- bytes, rows, nil, blk, seen, lasting, held
  have h5 := Held.pull3 h4
  -- blk, bytes, rows, nil, seen, lasting, held
  have h6 := Held.pull5 h5
  -- lasting, blk, bytes, rows, nil, seen, held
  exact Held.push4 h6
theorem settle_end {w0 w : World} {B : List Res} {p : Nat} {d : Dk} {i : DiskIn} {ps : List (Deed × Value)} {q : Deed → Bool} {vr : Value} {k : Nat} (hk : k = ps.length) (hps : ps.map (·.1) = d.pending) (h : SettleAt w0 B p d i ps q k vr w) :
    Held w0 (w.setCell ⟨p, 3, none⟩ vr) (rDisk p (d.settle q) :: B) := by
  subst hk
  have h1 := Held.store (l1 := []) h 3 vr
  have h2 := Held.big_sub bytesLoc (m := (notOf q ps ps.length).map bOf) (l1 := [_]) ((List.filter_sublist.trans (List.take_sublist _ _)).map bOf) h1
  have h3 := Held.drop0 (Held.pull2 h2)
  have h4 : Held w0 (w.setCell ⟨p, 3, none⟩ vr) (rRows 4 185 vr ((notOf q ps ps.length).map rowOf) :: rBig bytesLoc ((notOf q ps ps.length).map bOf) :: rBlk p 81 (diskCells (d.settle q) { i with vp := vr }) :: rFiles i.bl (d.settle q).lasting :: rFiles i.bs (d.settle q).seen :: rHeld i.bh (d.settle q).held :: B) := by
    have e1 : (diskCells d i).setIfInBounds 3 vr = diskCells (d.settle q) { i with vp := vr } := by simp [diskCells, Dk.settle]
    have e2 : lastOf q ps ps.length d.lasting = (d.settle q).lasting := by
      unfold lastOf yesOf
      rw [List.take_length]
      show _ = (d.pending.filter q).foldl Files.does d.lasting
      rw [← hps, List.filter_map]
      rfl
    rw [e1, e2] at h3
    exact (Held.pull2 h3).perm (.cons _ (.swap _ _ _))
  have h5 := Held.acts_shut h4
  have e3 : (notOf q ps ps.length).map (·.1) = (d.settle q).pending := by
    unfold notOf
    rw [List.take_length]
    show _ = d.pending.filter fun a => !q a
    rw [← hps, List.filter_map]
    rfl
  rw [e3] at h5
  have h6 := Held.dshut (d := d.settle q) { i with vp := vr } (B := B) (w0 := w0) (w := w.setCell ⟨p, 3, none⟩ vr) (p := p) (by
    -- acts, blk, lasting, seen, held
    have h7 := Held.push3 h5
    -- blk, lasting, seen, acts, held
    exact h7.perm (.cons _ (.swap _ _ _)))
  exact h6
theorem settle_cells {w0 w : World} {B : List Res} {p : Nat} {d : Dk} {i : DiskIn} {ps : List (Deed × Value)} {q : Deed → Bool} {k : Nat} {vr : Value} (h : SettleAt w0 B p d i ps q k vr w) : DiskSeen p d w i ∧ ∀ j, w.frozen? ⟨p, j, none⟩ = false :=
  ⟨(Held.blk0 h).disk, fun j => (Held.blk0 h).frozen j⟩
/-- what a round reads of the act that is next. -/
theorem settle_row {w0 w : World} {B : List Res} {p : Nat} {d : Dk} {bs bl bh vc : Nat} {vA : Option Addr} {ps : List (Deed × Value)} {q : Deed → Bool} {k : Nat} {vr : Value} (h : SettleAt w0 B p d ⟨bs, bl, bh, .slice vA ps.length vc⟩ ps q k vr w) (hk : k < ps.length) :
    ∃ g bA bc, vA = some ⟨g, 0, none⟩ ∧ ps[k].2 = .slice bA ps[k].1.b.length bc ∧ ps[k].1.b.length ≤ bc ∧ bc ≤ 9223372036854775807 ∧ w.cell? ⟨g, k * 4, none⟩ = some (.int .i64 ps[k].1.kind) ∧ w.cell? ⟨g, k * 4 + 1, none⟩ = some (sv ps[k].1.name) ∧
      w.cell? ⟨g, k * 4 + 2, none⟩ = some (.int .i64 ps[k].1.at_) ∧ w.cell? ⟨g, k * 4 + 3, none⟩ = some (.slice bA ps[k].1.b.length bc) := by
  have hj : (ps.map rowOf)[k]? = some (rowOf ps[k]) := by rw [List.getElem?_map, List.getElem?_eq_getElem hk]; rfl
  obtain ⟨g, c, hv, -, -, hc⟩ := Held.row_at (Held.pull2 h) hj
  injection hv with hv _ _
  obtain ⟨bA, bc, hb, q1, q2⟩ := Held.bytes_form (Held.pull1 h) (List.getElem_mem hk)
  have c0 := hc 0 _ rfl
  have c1 := hc 1 _ rfl
  have c2 := hc 2 _ rfl
  have c3 := hc 3 (.slice bA ps[k].1.b.length bc) (by rw [← hb]; rfl)
  exact ⟨g, bA, bc, hv, hb, q1, q2, c0, c1, c2, c3⟩
theorem settle_yes {w0 w : World} {B : List Res} {p ab : Nat} {t : TypeId} {cs : Array Value} {d : Dk} {i : DiskIn} {ps : List (Deed × Value)} {q : Deed → Bool} {k : Nat} {vr : Value} (hk : k < ps.length) (hq : q ps[k].1 = true)
    (h : Held w0 w ([rBlk ab t cs, rBlk p 81 (diskCells d i), rBig bytesLoc (ps.map bOf), rRows 4 185 i.vp (ps.map rowOf), rRows 4 185 vr ((notOf q ps k).map rowOf)] ++ rFiles i.bl (Files.does (lastOf q ps k d.lasting) ps[k].1) :: rFiles i.bs d.seen :: rHeld i.bh d.held :: B)) :
    SettleAt w0 B p d i ps q (k + 1) vr w := by
  unfold SettleAt
  rw [lastOf_yes hk hq, notOf_yes hk hq]
  exact Held.drop0 h
theorem settle_no {w0 w : World} {B : List Res} {p ab : Nat} {t : TypeId} {cs : Array Value} {d : Dk} {i : DiskIn} {ps : List (Deed × Value)} {q : Deed → Bool} {k : Nat} {vr : Value} (hk : k < ps.length) (hq : q ps[k].1 = false)
    (h : Held w0 w ([rBlk ab t cs, rBlk p 81 (diskCells d i), rBig bytesLoc (ps.map bOf), rRows 4 185 i.vp (ps.map rowOf)] ++ rRows 4 185 vr ((notOf q ps k).map rowOf ++ [rowOf ps[k]]) :: rFiles i.bl (lastOf q ps k d.lasting) :: rFiles i.bs d.seen :: rHeld i.bh d.held :: B)) :
    SettleAt w0 B p d i ps q (k + 1) vr w := by
  unfold SettleAt
  rw [lastOf_no hk hq, notOf_no hk hq, List.map_append]
  exact Held.drop0 h
theorem act_src {w0 : World} {B _C : List Res} {p ab : Nat} {t u : TypeId} {cs ds : Array Value} {ps : List (Deed × Value)} {x y : Res} {bA : Option Addr} {bc k : Nat} (hk : k < ps.length) (hb : ps[k].2 = .slice bA ps[k].1.b.length bc) :
    Src w0 [rBlk ab t cs, rBlk p u ds, rBig bytesLoc (ps.map bOf), x, y] B (.slice bA ps[k].1.b.length bc) (bytesV ps[k].1.b) := by
  intro w' M h
  rw [← hb]
  exact Held.bytes_at (Held.pull2 h) (List.getElem_mem hk)

set_option maxRecDepth 100000 in
set_option maxHeartbeats 2000000 in
theorem settle_sync {w0 w : World} {B : List Res} {p : Nat} {d : Dk} {nb : Nat} {name : Bytes} (h : Held w0 w (rDisk p d :: rBlk nb 9 #[sv name] :: B)) (hok : d.Ok) (hpl : d.pending.length ≤ 1000000) :
    Calls Tryz.prog 123 #[.pointer (some ⟨p, 0, none⟩), .func (.func 124) #[] #[.pointer (some ⟨nb, 0, none⟩)]] w fun e w' => e = .returned (.tuple #[]) ∧ Held w0 w' (rDisk p (d.settle (fun a => a.name == name)) :: rBlk nb 9 #[sv name] :: B) := by
  obtain ⟨bs, bl, bh, vA, vc, ps, hps, q1, q2, h0⟩ := settle_start h (fun a => a.name == name)
  have hpsl : ps.length ≤ 1000000 := by rw [← hps] at hpl; simpa using hpl
  obtain ⟨⟨c0, c1, c2, c3, c4⟩, hfz⟩ := settle_cells h0
  have H0 := hid h0
  have HK := hid (And.intro hok hps)
  clear h h0 hok hps hpl
  go_enter Tryz.func123, Tryz.ntmps123
  go_wp2_with fail
  clear c0 c1 c2 c3 c4 hfz
  go_loopw [4, 12] (fun vr iv wr => ∃ k : Nat, k ≤ ps.length ∧ iv = .int .i64 k ∧ SettleAt w0 (rBlk nb 9 #[sv name] :: B) p d ⟨bs, bl, bh, .slice vA ps.length vc⟩ ps (fun a => a.name == name) k vr wr) (fun _ iv _ => ps.length - (intOf iv).toNat)
  case atStart => exact ⟨0, Nat.zero_le _, rfl, H0.out⟩
  case round =>
    obtain ⟨k, hk, rfl, hh⟩ := hrel
    by_cases hlt : k < ps.length
    · obtain ⟨g, bA, bc, rfl, hbv, b1, b2, d0, d1, d2, d3⟩ := settle_row hh hlt
      have hmem : ps[k].1 ∈ d.pending := by rw [← HK.out.2]; exact List.mem_map_of_mem (List.getElem_mem hlt)
      obtain ⟨e1, e2, e3⟩ := HK.out.1.deed hmem
      have HS := hid (fun (B C : List Res) (p ab : Nat) (t u : TypeId) (cs ds : Array Value) (x y : Res) => act_src (w0 := w0) (B := B) (_C := C) (p := p) (ab := ab) (t := t) (u := u) (cs := cs) (ds := ds) (x := x) (y := y) hlt hbv)
      have HY := hid (fun (w : World) (t : TypeId) (cs : Array Value) (i : DiskIn) (ab : Nat) (vr : Value) hq hx => settle_yes (w0 := w0) (w := w) (B := rBlk nb 9 #[sv name] :: B) (p := p) (ab := ab) (t := t) (cs := cs) (d := d) (i := i) (ps := ps) (q := (fun a => a.name == name)) (vr := vr) hlt hq hx)
      have HN := hid (fun (w : World) (t : TypeId) (cs : Array Value) (i : DiskIn) (ab : Nat) (vr : Value) hq hx => settle_no (w0 := w0) (w := w) (B := rBlk nb 9 #[sv name] :: B) (p := p) (ab := ab) (t := t) (cs := cs) (d := d) (i := i) (ps := ps) (q := (fun a => a.name == name)) (vr := vr) hlt hq hx)
      have hrw : rowOf ps[k] = [.int .i64 ps[k].1.kind, .string ⟨ps[k].1.name.toArray⟩, .int .i64 ps[k].1.at_, .slice bA ps[k].1.b.length bc] := by unfold rowOf actRow sv; rw [hbv]
      have HW := hid hrw
      obtain ⟨a, ha⟩ : ∃ a, a = ps[k].1 := ⟨_, rfl⟩
      have HV := hid ha
      rw [← ha] at d0 d1 d2 d3 e1 e2 e3 HS HW b1
      have hg0 := (hh.block 185 #[.int .i64 a.kind, .string ⟨a.name.toArray⟩, .int .i64 a.at_, .slice bA a.b.length bc])
      have HG := hid hg0
      have HA := hid (sync1_any (wr.alloc (.cells #[.int .i64 a.kind, .string ⟨a.name.toArray⟩, .int .i64 a.at_, .slice bA a.b.length bc] 185)) a bA a.b.length bc nb name ((Held.blk (l1 := [_, _, _, _, _, _, _, _]) hg0).cell rfl))
      unfold sv at d1 HA
      have hle := notOf_le (q := (fun a => a.name == name)) (ps := ps) (k := k)
      have hfs := fun (n x : Bytes) hx => lastOf_le (q := (fun a => a.name == name)) (ps := ps) (k := k) (n := n) (x := x) HK.out.1 HK.out.2 hx
      have HL := hid hfs
      obtain ⟨rA, rc, hvr, r1, r2⟩ := Held.rows_form (l1 := [_, _, _]) hh
      rw [List.length_map] at hvr r1
      clear hh hmem ha hrw hbv hg0 hfs
      subst hvr
      generalize hlr : (notOf (fun a => a.name == name) ps k).length = lr at *
      have HLR := hid hlr
      clear hlr
      go_wp2_with fail
      refine HA.out.mono ?_
      rintro e w1 ⟨rfl, hm⟩
      have g1 := HG.out.step hm
      clear hm HG HA d0 d1 d2 d3
      have c2 : w1.cell? ⟨p, 2, none⟩ = some (.map (some bl)) := (Held.blk (l1 := [_]) g1).cell rfl
      obtain ⟨f0, f1, f2, f3⟩ : w1.cell? ⟨wr.heap.size, 0, none⟩ = some (.int .i64 a.kind) ∧ w1.cell? ⟨wr.heap.size, 1, none⟩ = some (.string ⟨a.name.toArray⟩) ∧ w1.cell? ⟨wr.heap.size, 2, none⟩ = some (.int .i64 a.at_) ∧ w1.cell? ⟨wr.heap.size, 3, none⟩ = some (.slice bA a.b.length bc) := ⟨(Held.blk0 g1).cell rfl, (Held.blk0 g1).cell rfl, (Held.blk0 g1).cell rfl, (Held.blk0 g1).cell rfl⟩
      generalize wr.heap.size = ab at *
      have G1 := hid g1
      cases hqq : (a.name == name) with
      | true =>
        have HQ := hid (show (fun a : Deed => a.name == name) ps[k].1 = true by show (ps[k].1.name == name) = true; rw [← HV.out]; exact hqq)
        have HC := hid (fdoes_held (A := [rBlk ab 185 #[.int .i64 a.kind, .string ⟨a.name.toArray⟩, .int .i64 a.at_, .slice bA a.b.length bc], rBlk p 81 _, rBig bytesLoc _, rRows 4 185 _ _, rRows 4 185 _ _]) (G1.out.drew) a bA bc (HS.out _ [] _ _ _ _ _ _ _ _) e2 e1 (by omega) (fun x hx => by have := HL.out _ _ hx; omega))
        unfold deedV sv at HC
        clear g1
        go_wp2_with fail
        go_region_held3 (fun w' => w'.cell? ⟨p, 2, none⟩ = some (.map (some bl)) ∧ w'.cell? ⟨ab, 0, none⟩ = some (.int .i64 a.kind) ∧ w'.cell? ⟨ab, 1, none⟩ = some (.string ⟨a.name.toArray⟩) ∧ w'.cell? ⟨ab, 2, none⟩ = some (.int .i64 a.at_) ∧ w'.cell? ⟨ab, 3, none⟩ = some (.slice bA a.b.length bc))
          (first | exact ⟨c2, f0, f1, f2, f3⟩ | exact ⟨c2', f0', f1', f2', f3'⟩)
          (first
            | (go_at_call 172; refine HC.out.mono ?_; rintro e w2 ⟨rfl, g2⟩; have c2' : w2.cell? ⟨p, 2, none⟩ = some (.map (some bl)) := (Held.blk (l1 := [_]) g2).cell rfl; obtain ⟨f0', f1', f2', f3'⟩ : w2.cell? ⟨ab, 0, none⟩ = some (.int .i64 a.kind) ∧ w2.cell? ⟨ab, 1, none⟩ = some (.string ⟨a.name.toArray⟩) ∧ w2.cell? ⟨ab, 2, none⟩ = some (.int .i64 a.at_) ∧ w2.cell? ⟨ab, 3, none⟩ = some (.slice bA a.b.length bc) := ⟨(Held.blk0 g2).cell rfl, (Held.blk0 g2).cell rfl, (Held.blk0 g2).cell rfl, (Held.blk0 g2).cell rfl⟩; have G2 := hid g2; clear g2))
        all_goals
          go_wp2_with fail
          exact ⟨⟨k + 1, by omega, by simp, HY.out _ _ _ _ _ _ HQ.out (by rw [← HV.out]; exact G2.out)⟩, by show ps.length - ((k : Int) + 1).toNat < ps.length - (k : Int).toNat; omega⟩
      | false =>
        have HQ := hid (show (fun a : Deed => a.name == name) ps[k].1 = false by show (ps[k].1.name == name) = false; rw [← HV.out]; exact hqq)
        obtain ⟨iA, iz, is, ib, iy⟩ := info_parts Tryz.infoAct
        have HI := hid (And.intro iz (And.intro is (And.intro ib iy)))
        clear g1 iz is ib iy
        go_wp2_with (at_builtin; refine wpList_append_row [rBlk ab 185 #[.int .i64 a.kind, .string ⟨a.name.toArray⟩, .int .i64 a.at_, .slice bA a.b.length bc], rBlk p 81 _, rBig bytesLoc _, rRows 4 185 _ _] _ rfl _ _ 78 rfl 4 185 iA _ 56 Tryz.underlying78 HI.out.1 HI.out.2.1 HI.out.2.2.1 HI.out.2.2.2 rfl (by decide) (.slice rA lr rc) ((notOf (fun a => a.name == name) ps k).map rowOf) lr (by rw [List.length_map]; exact HLR.out) rfl (G1.out.step ((Mod.refl _ _).alloc _)) _ _ [.int .i64 a.kind, .string ⟨a.name.toArray⟩, .int .i64 a.at_, .slice bA a.b.length bc] rfl rfl (World.news_of_block (heap_alloc_new w1 _)) (by intro u hu; simp only [List.mem_cons, List.not_mem_nil, or_false] at hu; rcases hu with rfl | rfl | rfl | rfl <;> rfl) (by omega) (by unfold maxLen; omega) ?c8)
        case c8 =>
          intro A' c' w2 p1 p2 g2
          have G2 := hid g2
          clear g2
          go_wp2_with fail
          exact ⟨⟨k + 1, by omega, by simp, HN.out _ _ _ _ _ _ HQ.out (by rw [HW.out]; exact G2.out)⟩, by show ps.length - ((k : Int) + 1).toNat < ps.length - (k : Int).toNat; omega⟩
    · obtain ⟨rA, rc, hvr, r1, r2⟩ := Held.rows_form (l1 := [_, _, _]) hh
      subst hvr
      generalize ((notOf (fun a => a.name == name) ps k).map rowOf).length = ln at *
      obtain ⟨⟨c0, c1, c2, c3, c4⟩, hfz⟩ := settle_cells hh
      have hke : k = ps.length := by omega
      have HE := hid (settle_end hke HK.out.2 hh)
      clear hh hke r1 r2
      go_wp2_with fail
      go_end0
      exact ⟨rfl, HE.out⟩

set_option maxRecDepth 100000 in
set_option maxHeartbeats 2000000 in
theorem settle_flush {w0 w : World} {B : List Res} {p : Nat} {d : Dk}  (h : Held w0 w (rDisk p d :: B)) (hok : d.Ok) (hpl : d.pending.length ≤ 1000000) :
    Calls Tryz.prog 123 #[.pointer (some ⟨p, 0, none⟩), .func (.func 156) #[] #[]] w fun e w' => e = .returned (.tuple #[]) ∧ Held w0 w' (rDisk p (d.settle (fun _ => true)) :: B) := by
  obtain ⟨bs, bl, bh, vA, vc, ps, hps, q1, q2, h0⟩ := settle_start h (fun _ => true)
  have hpsl : ps.length ≤ 1000000 := by rw [← hps] at hpl; simpa using hpl
  obtain ⟨⟨c0, c1, c2, c3, c4⟩, hfz⟩ := settle_cells h0
  have H0 := hid h0
  have HK := hid (And.intro hok hps)
  clear h h0 hok hps hpl
  go_enter Tryz.func123, Tryz.ntmps123
  go_wp2_with fail
  clear c0 c1 c2 c3 c4 hfz
  go_loopw [4, 12] (fun vr iv wr => ∃ k : Nat, k ≤ ps.length ∧ iv = .int .i64 k ∧ SettleAt w0 (B) p d ⟨bs, bl, bh, .slice vA ps.length vc⟩ ps (fun _ => true) k vr wr) (fun _ iv _ => ps.length - (intOf iv).toNat)
  case atStart => exact ⟨0, Nat.zero_le _, rfl, H0.out⟩
  case round =>
    obtain ⟨k, hk, rfl, hh⟩ := hrel
    by_cases hlt : k < ps.length
    · obtain ⟨g, bA, bc, rfl, hbv, b1, b2, d0, d1, d2, d3⟩ := settle_row hh hlt
      have hmem : ps[k].1 ∈ d.pending := by rw [← HK.out.2]; exact List.mem_map_of_mem (List.getElem_mem hlt)
      obtain ⟨e1, e2, e3⟩ := HK.out.1.deed hmem
      have HS := hid (fun (B C : List Res) (p ab : Nat) (t u : TypeId) (cs ds : Array Value) (x y : Res) => act_src (w0 := w0) (B := B) (_C := C) (p := p) (ab := ab) (t := t) (u := u) (cs := cs) (ds := ds) (x := x) (y := y) hlt hbv)
      have HY := hid (fun (w : World) (t : TypeId) (cs : Array Value) (i : DiskIn) (ab : Nat) (vr : Value) hq hx => settle_yes (w0 := w0) (w := w) (B := B) (p := p) (ab := ab) (t := t) (cs := cs) (d := d) (i := i) (ps := ps) (q := (fun _ => true)) (vr := vr) hlt hq hx)
      have HN := hid (fun (w : World) (t : TypeId) (cs : Array Value) (i : DiskIn) (ab : Nat) (vr : Value) hq hx => settle_no (w0 := w0) (w := w) (B := B) (p := p) (ab := ab) (t := t) (cs := cs) (d := d) (i := i) (ps := ps) (q := (fun _ => true)) (vr := vr) hlt hq hx)
      have hrw : rowOf ps[k] = [.int .i64 ps[k].1.kind, .string ⟨ps[k].1.name.toArray⟩, .int .i64 ps[k].1.at_, .slice bA ps[k].1.b.length bc] := by unfold rowOf actRow sv; rw [hbv]
      have HW := hid hrw
      obtain ⟨a, ha⟩ : ∃ a, a = ps[k].1 := ⟨_, rfl⟩
      have HV := hid ha
      rw [← ha] at d0 d1 d2 d3 e1 e2 e3 HS HW b1
      have hg0 := (hh.block 185 #[.int .i64 a.kind, .string ⟨a.name.toArray⟩, .int .i64 a.at_, .slice bA a.b.length bc])
      have HG := hid hg0
      have HA := hid (flush1_any (wr.alloc (.cells #[.int .i64 a.kind, .string ⟨a.name.toArray⟩, .int .i64 a.at_, .slice bA a.b.length bc] 185)) a bA a.b.length bc)
      unfold sv at d1 HA
      have hle := notOf_le (q := (fun _ => true)) (ps := ps) (k := k)
      have hfs := fun (n x : Bytes) hx => lastOf_le (q := (fun _ => true)) (ps := ps) (k := k) (n := n) (x := x) HK.out.1 HK.out.2 hx
      have HL := hid hfs
      obtain ⟨rA, rc, hvr, r1, r2⟩ := Held.rows_form (l1 := [_, _, _]) hh
      rw [List.length_map] at hvr r1
      clear hh hmem ha hrw hbv hg0 hfs
      subst hvr
      generalize hlr : (notOf (fun _ => true) ps k).length = lr at *
      have HLR := hid hlr
      clear hlr
      go_wp2_with fail
      refine HA.out.mono ?_
      rintro e w1 ⟨rfl, hm⟩
      have g1 := HG.out.step hm
      clear hm HG HA d0 d1 d2 d3
      have c2 : w1.cell? ⟨p, 2, none⟩ = some (.map (some bl)) := (Held.blk (l1 := [_]) g1).cell rfl
      obtain ⟨f0, f1, f2, f3⟩ : w1.cell? ⟨wr.heap.size, 0, none⟩ = some (.int .i64 a.kind) ∧ w1.cell? ⟨wr.heap.size, 1, none⟩ = some (.string ⟨a.name.toArray⟩) ∧ w1.cell? ⟨wr.heap.size, 2, none⟩ = some (.int .i64 a.at_) ∧ w1.cell? ⟨wr.heap.size, 3, none⟩ = some (.slice bA a.b.length bc) := ⟨(Held.blk0 g1).cell rfl, (Held.blk0 g1).cell rfl, (Held.blk0 g1).cell rfl, (Held.blk0 g1).cell rfl⟩
      generalize wr.heap.size = ab at *
      have G1 := hid g1
      have HQ := hid (show (fun _ : Deed => true) ps[k].1 = true from rfl)
      have HC := hid (fdoes_held (A := [rBlk ab 185 #[.int .i64 a.kind, .string ⟨a.name.toArray⟩, .int .i64 a.at_, .slice bA a.b.length bc], rBlk p 81 _, rBig bytesLoc _, rRows 4 185 _ _, rRows 4 185 _ _]) (G1.out.drew) a bA bc (HS.out _ [] _ _ _ _ _ _ _ _) e2 e1 (by omega) (fun x hx => by have := HL.out _ _ hx; omega))
      unfold deedV sv at HC
      clear g1
      go_wp2_with fail
      go_region_held3 (fun w' => w'.cell? ⟨p, 2, none⟩ = some (.map (some bl)) ∧ w'.cell? ⟨ab, 0, none⟩ = some (.int .i64 a.kind) ∧ w'.cell? ⟨ab, 1, none⟩ = some (.string ⟨a.name.toArray⟩) ∧ w'.cell? ⟨ab, 2, none⟩ = some (.int .i64 a.at_) ∧ w'.cell? ⟨ab, 3, none⟩ = some (.slice bA a.b.length bc))
        (first | exact ⟨c2, f0, f1, f2, f3⟩ | exact ⟨c2', f0', f1', f2', f3'⟩)
        (first
          | (go_at_call 172; refine HC.out.mono ?_; rintro e w2 ⟨rfl, g2⟩; have c2' : w2.cell? ⟨p, 2, none⟩ = some (.map (some bl)) := (Held.blk (l1 := [_]) g2).cell rfl; obtain ⟨f0', f1', f2', f3'⟩ : w2.cell? ⟨ab, 0, none⟩ = some (.int .i64 a.kind) ∧ w2.cell? ⟨ab, 1, none⟩ = some (.string ⟨a.name.toArray⟩) ∧ w2.cell? ⟨ab, 2, none⟩ = some (.int .i64 a.at_) ∧ w2.cell? ⟨ab, 3, none⟩ = some (.slice bA a.b.length bc) := ⟨(Held.blk0 g2).cell rfl, (Held.blk0 g2).cell rfl, (Held.blk0 g2).cell rfl, (Held.blk0 g2).cell rfl⟩; have G2 := hid g2; clear g2))
      all_goals
        go_wp2_with fail
        exact ⟨⟨k + 1, by omega, by simp, HY.out _ _ _ _ _ _ HQ.out (by rw [← HV.out]; exact G2.out)⟩, by show ps.length - ((k : Int) + 1).toNat < ps.length - (k : Int).toNat; omega⟩
    · obtain ⟨rA, rc, hvr, r1, r2⟩ := Held.rows_form (l1 := [_, _, _]) hh
      subst hvr
      generalize ((notOf (fun _ => true) ps k).map rowOf).length = ln at *
      obtain ⟨⟨c0, c1, c2, c3, c4⟩, hfz⟩ := settle_cells hh
      have hke : k = ps.length := by omega
      have HE := hid (settle_end hke HK.out.2 hh)
      clear hh hke r1 r2
      go_wp2_with fail
      go_end0
      exact ⟨rfl, HE.out⟩

end Go.Proofs.YtdbhccehbjhbpaaGreatDoor

/- disk: free. -/
namespace Go.Proofs.YtdbhccehbjhbpaaGreatDoor
open Go.RowKit
open Disk

/-- where free looks. -/
def FreeLook (w0 : World) (B : List Res) (p : Nat) (cs : Array Value) (bh bl : Nat) (f : Files) (name : Bytes) : Prop :=
  ∀ w' h', Held w0 w' (rBlk p 81 cs :: rHeld bh h' :: B) →
    (Dict.get f name = none → (Instr.lookup 77 (.map (some bl)) (sv name) false).run Tryz.prog w' = .ok (.pointer none) w') ∧
    (∀ x, Dict.get f name = some x → ∃ b A c, (Instr.lookup 77 (.map (some bl)) (sv name) false).run Tryz.prog w' = .ok (.pointer (some ⟨b, 0, none⟩)) w' ∧ w'.cell? ⟨b, 0, none⟩ = some (.slice A x.length c) ∧ x.length ≤ c ∧ c ≤ 9223372036854775807)

theorem put_del {h : Dict Nat} {n : Bytes} {k : Nat} : Dict.put (Dict.del h n) n k = Dict.put h n k := by
  unfold Dict.put Dict.del
  rw [List.filter_filter]
  simp

set_option maxRecDepth 100000 in
set_option maxHeartbeats 1000000 in
theorem free_gen {w0 w : World} {B : List Res} {p bh bl : Nat} {cs : Array Value} {hd : Dict Nat} {f : Files} {name : Bytes} (h : Held w0 w (rBlk p 81 cs :: rHeld bh hd :: B)) (h4 : cs[4]? = some (.map (some bh))) (h2 : cs[2]? = some (.map (some bl)))
    (hn : name.length ≤ 9223372036854775807) (hl : FreeLook w0 B p cs bh bl f name) :
    Calls Tryz.prog 125 #[.pointer (some ⟨p, 0, none⟩), sv name] w fun e w' => e = .returned (.tuple #[]) ∧ Held w0 w' (rBlk p 81 cs :: rHeld bh (freed hd f name) :: B) := by
  have c4 := (Held.blk0 h).cell h4
  have HD := hid (Held.held_del (A := [_]) h hn)
  have HL := hid hl
  have H24 := hid (And.intro h2 (And.intro h4 hn))
  cases hg : Dict.get f name with
  | none =>
    have HF := hid (show freed hd f name = Dict.del hd name by unfold freed; rw [hg])
    have HG := hid hg
    clear h hl h2 h4 hg hn
    go_enter Tryz.func125, Tryz.ntmps125
    go_wp2_with (at_delete; refine wpList_delete_ex _ rfl _ _ 79 9 rfl _ _ rfl rfl _ HD.out ?c2)
    case c2 =>
      intro w1 g1
      have c2 := (Held.blk0 g1).cell H24.out.1
      have hlk := (HL.out _ _ g1).1 HG.out
      have G1 := hid g1
      clear g1 c4
      go_wp2_with fail
      go_end0
      rw [HF.out]
      exact ⟨rfl, G1.out⟩
  | some x =>
    by_cases h0 : x.length = 0
    · have HF := hid (show freed hd f name = Dict.del hd name by unfold freed; rw [hg]; simp [h0])
      have HG := hid hg
      have H0 := hid h0
      clear h hl h2 h4 hg hn h0
      go_enter Tryz.func125, Tryz.ntmps125
      go_wp2_with (at_delete; refine wpList_delete_ex _ rfl _ _ 79 9 rfl _ _ rfl rfl _ HD.out ?c3)
      case c3 =>
        intro w1 g1
        have c2 := (Held.blk0 g1).cell H24.out.1
        obtain ⟨b, A, c, hlk, hc, q1, q2⟩ := (HL.out _ _ g1).2 x HG.out
        rw [H0.out] at hc
        have G1 := hid g1
        clear g1 c4 q1 q2
        go_wp2_with fail
        go_end0
        rw [HF.out]
        exact ⟨rfl, G1.out⟩
    · have HF := hid (show freed hd f name = Dict.put (Dict.del hd name) name x.length by unfold freed; rw [hg, put_del]; simp [h0])
      have HG := hid hg
      have hpos : 0 < x.length := by omega
      clear h hl h2 h4 hg hn h0
      go_enter Tryz.func125, Tryz.ntmps125
      go_wp2_with (at_delete; refine wpList_delete_ex _ rfl _ _ 79 9 rfl _ _ rfl rfl _ HD.out ?c4)
      case c4 =>
        intro w1 g1
        have c2 := (Held.blk0 g1).cell H24.out.1
        have c4' := (Held.blk0 g1).cell H24.out.2.1
        obtain ⟨b, A, c, hlk, hc, q1, q2⟩ := (HL.out _ _ g1).2 x HG.out
        obtain ⟨w5, hr5, g5⟩ := Held.held_put (A := [_]) g1.drew H24.out.2.2 x.length
        have G5 := hid g5
        clear g1 g5 c4
        go_wp2_with fail
        go_still_tail 10, (by kernel_rfl)
        go_wp2_with fail
        go_end0
        rw [HF.out]
        exact ⟨rfl, G5.out⟩
end Go.Proofs.YtdbhccehbjhbpaaGreatDoor

/- disk: Sync, rest, Flush. -/
namespace Go.Proofs.YtdbhccehbjhbpaaGreatDoor
open Go.RowKit
open Disk

section
variable {w0 w : World} {B : List Res} {p bh bl : Nat} {cs : Array Value} {f : Files} {name : Bytes}
theorem freeLook_files {x : Res} (hn : name.length ≤ 9223372036854775807) : FreeLook w0 (x :: rFiles bl f :: B) p cs bh bl f name := by
  intro w' h' h
  obtain ⟨ys, hp, h1⟩ := Held.files_open (A := [_, _, _]) h
  refine ⟨fun hg => (Held.files_none (A := [_, _, _]) h1 hp hn hg).1 false, fun x hg => ?_⟩
  obtain ⟨ys1, ys2, b, s, -, hlk, h2⟩ := Held.files_some (A := [_, _, _]) h1 hp hn hg
  obtain ⟨A, c, rfl, q1, q2⟩ := Held.form (l1 := [_, _, _, _, _, _]) h2
  exact ⟨b, A, c, hlk false, (Held.blk (l1 := [_, _, _, _, _]) h2).cell rfl, q1, q2⟩
theorem freeLook_iter {it : Nat} {todo : List (Value × Value)} {ys : List ((Bytes × Bytes) × Value)} (hp : (ys.map (·.1)).Perm f) (hn : name.length ≤ 9223372036854775807) :
    FreeLook w0 (rIter Tryz.prog 9 it bl (filesL ys) todo :: rBig fileLoc ys :: B) p cs bh bl f name := by
  intro w' h' h
  have h1 := Held.range_end (A := [_, _]) h
  refine ⟨fun hg => (Held.files_none (A := [_, _]) h1 hp hn hg).1 false, fun x hg => ?_⟩
  obtain ⟨ys1, ys2, b, s, -, hlk, h2⟩ := Held.files_some (A := [_, _]) h1 hp hn hg
  obtain ⟨A, c, rfl, q1, q2⟩ := Held.form (l1 := [_, _, _, _, _]) h2
  exact ⟨b, A, c, hlk false, (Held.blk (l1 := [_, _, _, _]) h2).cell rfl, q1, q2⟩
theorem free_held {d : Dk} (h : Held w0 w (rDisk p d :: B)) (hn : name.length ≤ 9223372036854775807) :
    Calls Tryz.prog 125 #[.pointer (some ⟨p, 0, none⟩), sv name] w fun e w' => e = .returned (.tuple #[]) ∧ Held w0 w' (rDisk p { d with held := freed d.held d.lasting name } :: B) := by
  obtain ⟨i, h1⟩ := h.dopen
  refine (free_gen (Held.pull4 h1).pull1 (cs := diskCells d i) rfl rfl hn (freeLook_files hn)).mono ?_
  rintro e w' ⟨he, g⟩
  exact ⟨he, Held.dshut (d := { d with held := freed d.held d.lasting name }) i (Held.push4 (Held.pull1 g))⟩
end

set_option maxRecDepth 100000 in
set_option maxHeartbeats 1000000 in
theorem sync_held {w0 w : World} {B : List Res} {p : Nat} {d : Dk} (h : Held w0 w (rDisk p d :: B)) (hok : d.Ok) (hpl : d.pending.length ≤ 1000000) (name : Bytes) (hn : name.length ≤ 9223372036854775807) :
    Calls Tryz.prog 71 #[.pointer (some ⟨p, 0, none⟩), sv name] w fun e w' => e = .returned (.int .i64 (d.sync name).2) ∧ Held w0 w' (rDisk p (d.sync name).1 :: B) := by
  have hb := (h.block 9 #[sv name]).pull1
  have hc : ∀ (w' : World) (d' : Dk), Held w0 w' (rDisk p d' :: rBlk w.heap.size 9 #[sv name] :: B) → w'.cell? ⟨w.heap.size, 0, none⟩ = some (sv name) := fun _ _ h => (Held.blk (l1 := [_]) h).cell rfl
  have c0 := hc _ _ hb
  have HC := hid hc
  clear hc
  cases hm : may name with
  | false =>
    have HE := hid (show d.sync name = (d, 6) by unfold Dk.sync Dk.look; simp [hm])
    have HL := hid (look_bad hb hn hm)
    clear h hb hm hok
    unfold sv at HL c0 ⊢
    go_enter Tryz.func71, Tryz.ntmps71
    go_wp2_with fail
    refine HL.out.mono ?_
    rintro e w1 ⟨rfl, g1⟩
    have G1 := hid g1
    clear g1
    go_wp2_with fail
    go_ret
    rw [HE.out]
    exact ⟨rfl, Held.drop0 (Held.pull1 G1.out)⟩
  | true =>
    cases hg : Dict.get d.seen name with
    | none =>
      have HE := hid (show d.sync name = (d, 20) by unfold Dk.sync Dk.look; simp [hm, hg])
      have HL := hid (look_miss hb hn hm hg)
      clear h hb hm hg hok
      unfold sv at HL c0 ⊢
      go_enter Tryz.func71, Tryz.ntmps71
      go_wp2_with fail
      refine HL.out.mono ?_
      rintro e w1 ⟨rfl, g1⟩
      have G1 := hid g1
      clear g1
      go_wp2_with fail
      go_ret
      rw [HE.out]
      exact ⟨rfl, Held.drop0 (Held.pull1 G1.out)⟩
    | some x =>
      have HE := hid (show d.sync name = ({ d.settle (fun a => a.name == name) with held := freed d.held (d.settle (fun a => a.name == name)).lasting name }, 0) by unfold Dk.sync Dk.look; simp [hm, hg])
      have HL := hid (look_hit hb hn hm hg)
      have HK := hid (And.intro hok hn)
      clear h hb hm hg hok
      unfold sv at HL c0 ⊢
      go_enter Tryz.func71, Tryz.ntmps71
      go_wp2_with fail
      refine HL.out.mono ?_
      rintro e w1 ⟨b, A, c, rfl, -, q1, q2, -, g1⟩
      have CS := hid (settle_sync g1 HK.out.1 hpl)
      clear g1 HL c0
      go_wp2_with fail
      refine CS.out.mono ?_
      rintro e w2 ⟨rfl, g2⟩
      have c2 := HC.out _ _ g2
      have CF := hid (free_held g2 HK.out.2)
      unfold sv at c2 CF
      clear g2 CS
      go_wp2_with fail
      refine CF.out.mono ?_
      rintro e w3 ⟨rfl, g3⟩
      have G3 := hid g3
      clear g3
      go_wp2_with fail
      go_ret
      rw [HE.out]
      exact ⟨rfl, Held.drop0 (Held.pull1 G3.out)⟩

/-! ### rest -/
def RestAt (w0 : World) (B : List Res) (p : Nat) (d : Dk) (bs bl bh : Nat) (vp : Value) (it : Nat) (ys : List ((Bytes × Bytes) × Value)) (w : World) (n : Nat) : Prop :=
  ∃ (ds : List (Bytes × Bytes)) (ts : List ((Bytes × Bytes) × Value)) (todo : List (Value × Value)), (ds ++ ts.map (·.1)).Perm (ys.map (·.1)) ∧ todo.Perm (filesL ts) ∧ ts.length = n ∧
    Held w0 w (rBlk p 81 (diskCells d ⟨bs, bl, bh, vp⟩) :: rHeld bh (lens ds) :: rIter Tryz.prog 9 it bl (filesL ys) todo :: rBig fileLoc ys :: rFiles bs d.seen :: rActs vp d.pending :: B)

theorem freed_lens {ds : List (Bytes × Bytes)} {f : Files} {n x : Bytes} (hg : Dict.get f n = some x) (hn : n ∉ ds.map (·.1)) : freed (lens ds) f n = lens ((n, x) :: ds) := by
  have h0 : Dict.get (lens ds) n = none := get_notin fun h => hn (lens_names h)
  unfold freed
  rw [hg, lens_cons]
  simp only
  rw [del_none h0, put_new h0]
theorem lens_perm {f g : List (Bytes × Bytes)} (h : f.Perm g) : (lens f).Perm (lens g) := (h.filter _).map _

theorem rest_start {w0 w : World} {B : List Res} {p : Nat} {d : Dk} (h : Held w0 w (rDisk p d :: B)) :
    ∃ bs bl bh vp w1 w2 it ys, (ys.map (·.1)).Perm d.lasting ∧ w.cell? ⟨p, 4, none⟩ = some (.map (some bh)) ∧ (∀ ty, (Builtin.clear_ #[79] ty #[.map (some bh)]).run Tryz.prog w = .ok (.tuple #[]) w1) ∧ w1.cell? ⟨p, 2, none⟩ = some (.map (some bl)) ∧
      (Instr.range 77 (.map (some bl))).run Tryz.prog w1 = .ok (.pointer (some ⟨it, 0, none⟩)) w2 ∧ RestAt w0 B p d bs bl bh vp it ys w2 ys.length := by
  obtain ⟨⟨bs, bl, bh, vp⟩, h1⟩ := h.dopen
  have c4 := (Held.blk0 h1).disk.c4
  obtain ⟨w1, hr1, g1⟩ := Held.map_clear (A := []) Tryz.underlying79 (Held.pull4 h1)
  have c2 : w1.cell? ⟨p, 2, none⟩ = some (.map (some bl)) := (Held.blk (l1 := [_]) g1).cell rfl
  -- held, blk, seen, lasting, acts
  obtain ⟨ys, hp, g2⟩ := Held.files_open (A := [_, _, _]) g1
  -- held, blk, seen, map, big, acts
  obtain ⟨w2, hr2, g3⟩ := Held.range (A := [_, _, _]) Tryz.underlying77 g2
  refine ⟨bs, bl, bh, vp, w1, w2, _, ys, hp, c4, hr1, c2, hr2, [], ys, filesL ys, .refl _, .refl _, rfl, ?_⟩
  -- held, blk, seen, iter, big, acts
  exact Held.push4 (Held.pull2 (Held.push1 g3))

theorem rest_step {w0 w : World} {B : List Res} {p : Nat} {d : Dk} {bs bl bh it : Nat} {vp : Value} {ys ts1 ts2 : List ((Bytes × Bytes) × Value)} {y : (Bytes × Bytes) × Value} {ds : List (Bytes × Bytes)} {todo : List (Value × Value)}
    (hok : Dict.Ok d.lasting) (hp : (ys.map (·.1)).Perm d.lasting) (hd : (ds ++ (ts1 ++ y :: ts2).map (·.1)).Perm (ys.map (·.1))) (hq : (filesL (ts1 ++ ts2)).Perm todo)
    (h : Held w0 w (rBlk p 81 (diskCells d ⟨bs, bl, bh, vp⟩) :: rHeld bh (freed (lens ds) d.lasting y.1.1) :: rIter Tryz.prog 9 it bl (filesL ys) todo :: rBig fileLoc ys :: rFiles bs d.seen :: rActs vp d.pending :: B)) :
    RestAt w0 B p d bs bl bh vp it ys w (ts1 ++ ts2).length := by
  have hpf : (ds ++ (ts1 ++ y :: ts2).map (·.1)).Perm d.lasting := hd.trans hp
  have hnd : ((ds ++ (ts1 ++ y :: ts2).map (·.1)).map (·.1)).Nodup := (hpf.map _).nodup_iff.2 hok
  have hnot : y.1.1 ∉ ds.map (·.1) := by
    rw [List.map_append, List.nodup_append] at hnd
    intro hy
    exact hnd.2.2 _ hy y.1.1 (by simp) rfl
  have hget : Dict.get d.lasting y.1.1 = some y.1.2 := get_of_mem hok (hpf.mem_iff.1 (by simp))
  rw [freed_lens hget hnot] at h
  refine ⟨y.1 :: ds, ts1 ++ ts2, todo, ?_, hq.symm, rfl, h⟩
  refine List.Perm.trans ?_ hd
  rw [List.map_append, List.map_append, List.map_cons, List.cons_append, ← List.append_assoc, ← List.append_assoc]
  exact List.perm_middle.symm

set_option maxRecDepth 100000 in
set_option maxHeartbeats 1000000 in
theorem rest_held {w0 w : World} {B : List Res} {p : Nat} {d : Dk} (h : Held w0 w (rDisk p d :: B)) (hok : Dict.Ok d.lasting) (hsz : ∀ n x, Dict.get d.lasting n = some x → n.length ≤ 9223372036854775807 ∧ x.length ≤ 1073741824) :
    Calls Tryz.prog 157 #[.pointer (some ⟨p, 0, none⟩)] w fun e w' => e = .returned (.tuple #[]) ∧ Held w0 w' (rDisk p d.rest :: B) := by
  obtain ⟨bs, bl, bh, vp, w1, w2, it, ys, hp, c4, hr1, c2, hr2, h0⟩ := rest_start h
  have H0 := hid h0
  have HG := hid (And.intro hok (And.intro hsz hp))
  clear h h0 hok hsz hp
  go_enter Tryz.func157, Tryz.ntmps157
  go_wp2_with fail
  clear c4 hr1 c2 hr2
  go_loopw [2] (fun _ wr => ∃ n, RestAt w0 B p d bs bl bh vp it ys wr n) (fun _ wr => wr.rangeLeft bl it)
  case atStart => exact ⟨_, H0.out⟩
  case round =>
    obtain ⟨n, ds, ts, todo, hd, ht, hn, hh⟩ := hrel
    have HN := hid (Held.pull2 hh).next0
    have HI := hid (And.intro hd (And.intro ht hh))
    clear hd ht hh hn
    go_wp2_with (at_next; refine wpList_next_ex _ rfl _ rfl _ rfl _ _ HN.out ?c0 ?c1)
    case c0 =>
      rintro rfl
      obtain ⟨hd, ht, hh⟩ := HI.out
      have hts : ts = [] := by
        have := ht.length_eq
        simp only [filesL, List.length_nil, List.length_map] at this
        exact List.eq_nil_of_length_eq_zero this.symm
      subst hts
      obtain ⟨hok, hsz, hp⟩ := HG.out
      have hdl : ds.Perm d.lasting := (by simpa using hd : ds.Perm _).trans hp
      have g1 := Held.files_close (A := [_, _]) hp (Held.range_end (A := [_, _]) hh)
      have b2 : wr.cell? ⟨p, 2, none⟩ = some (.map (some bl)) := (Held.blk0 g1).cell rfl
      have CC := hid (copied_held (A := [_, _]) g1 (fun q hq => (hsz q.1 q.2 (get_of_mem hok hq)).2) (fun q hq => (hsz q.1 q.2 (get_of_mem hok hq)).1))
      have HP := hid hdl
      clear hd ht hh hdl g1 hok hsz hp HI HN
      go_wp2_with fail
      refine CC.out.mono ?_
      rintro e w3 ⟨bo, rfl, g2⟩
      have b1 : w3.cell? ⟨p, 1, none⟩ = some (.map (some bs)) := (Held.blk0 g2).cell rfl
      have f1 := (Held.blk0 g2).frozen 1
      have g3 := Held.store (l1 := []) g2 1 (.map (some bo))
      -- blk, held, new files, lasting, seen, acts
      have g4 := Held.held_perm (A := [_]) g3 (lens_perm HP.out)
      have g5 := Held.drop0 (Held.pull4 g4)
      -- blk, held, new, lasting, acts
      have HX := hid (show Held w0 (w3.setCell ⟨p, 1, none⟩ (.map (some bo))) (rDisk p d.rest :: B) from Held.dshut (d := d.rest) ⟨bo, bl, bh, vp⟩ (by
        have e : (diskCells d ⟨bs, bl, bh, vp⟩).setIfInBounds 1 (.map (some bo)) = diskCells d.rest ⟨bo, bl, bh, vp⟩ := by simp [diskCells, Dk.rest]
        rw [e] at g5
        exact Held.push4 (Held.pull1 g5)))
      clear g2 g3 g4 g5 CC
      go_wp2_with fail
      go_end0
      exact ⟨rfl, HX.out⟩
    case c1 =>
      intro k v w3 hP
      obtain ⟨todo', hpm, hmem, hen, h2⟩ := hP
      obtain ⟨hd, ht, hh⟩ := HI.out
      obtain ⟨y, ts1, ts2, rfl, rfl, rfl, hq⟩ := files_pick (ht.symm.trans hpm)
      have h3 := Held.push2 h2
      have hyl : y.1 ∈ d.lasting := (hd.trans HG.out.2.2).mem_iff.1 (by simp)
      have hnl := (HG.out.2.1 y.1.1 y.1.2 (get_of_mem HG.out.1 hyl)).1
      have CF := hid (free_gen (f := d.lasting) (name := y.1.1) h3 rfl rfl hnl (freeLook_iter HG.out.2.2 hnl))
      have l1 := (Held.iterAt (A := [_, _]) hh).left
      have HJ := hid (And.intro hd (And.intro hq (And.intro l1 hpm.length_eq)))
      obtain ⟨bv, hbv⟩ : ∃ bv, bv = y.2 := ⟨_, rfl⟩
      clear hd ht hh hq h2 h3 hpm hmem l1 HI HN hbv
      unfold sv at hen CF
      go_wp2_with fail
      refine CF.out.mono ?_
      rintro e w4 ⟨rfl, g4⟩
      have l2 := (Held.iterAt (A := [_, _]) g4).left
      have HR := hid (rest_step HG.out.1 HG.out.2.2 HJ.out.1 HJ.out.2.1 g4)
      have HM := hid (show w4.rangeLeft bl it < wr.rangeLeft bl it by
        rw [l2, HJ.out.2.2.1, HJ.out.2.2.2]
        simp)
      clear g4 l2 CF
      go_wp2_with fail
      exact ⟨⟨_, HR.out⟩, HM.out⟩

set_option maxRecDepth 100000 in
theorem flush_held {w0 w : World} {B : List Res} {p : Nat} {d : Dk} (h : Held w0 w (rDisk p d :: B)) (hok : d.Ok) (hpl : d.pending.length ≤ 1000000) :
    Calls Tryz.prog 102 #[.pointer (some ⟨p, 0, none⟩)] w fun e w' => e = .returned (.int .i64 0) ∧ Held w0 w' (rDisk p d.flush :: B) := by
  obtain ⟨i, hs, -, -⟩ := h.view
  have HM := hid (dmade_any w p (some i.bs) hs.c1)
  have CS := hid (settle_flush h hok hpl)
  have HS := hid (show ∀ n x, Dict.get (d.settle fun _ => true).lasting n = some x → n.length ≤ 9223372036854775807 ∧ x.length ≤ 1073741824 from fun n x hx => by
    rw [hok.get_flushed] at hx
    have h1 := Dk.Ok.len hok hx
    have h2 := may_len (hok.seenLe n x hx).1
    exact ⟨by omega, by omega⟩)
  have HO := hid (show Dict.Ok (d.settle fun _ => true).lasting from dones_ok _ hok.lastOk)
  clear h hok hs
  go_enter Tryz.func102, Tryz.ntmps102
  go_wp2_with (first
    | (go_at_call 147; refine HM.out.mono ?_; rintro e w' ⟨rfl, rfl⟩))
  refine CS.out.mono ?_
  rintro e w1 ⟨rfl, g1⟩
  have CR := hid (rest_held g1 HO.out HS.out)
  clear g1
  go_wp2_with fail
  refine CR.out.mono ?_
  rintro e w2 ⟨rfl, g2⟩
  have G2 := hid g2
  clear g2
  go_wp2_with fail
  go_ret
  exact ⟨rfl, G2.out⟩
end Go.Proofs.YtdbhccehbjhbpaaGreatDoor

/- disk: what Crash keeps: the rows of acts, the last one cut. -/
namespace Go.Proofs.YtdbhccehbjhbpaaGreatDoor
open Go.RowKit
open Disk

theorem flatten_set {α : Type} {k : Nat} (u : α) : ∀ {rows : List (List α)} {j m : Nat} {r : List α}, (∀ r ∈ rows, r.length = k) → rows[j]? = some r → m < k → (rows.set j (r.set m u)).flatten = rows.flatten.set (j * k + m) u
  | [], j, m, r, _, h, _ => by simp at h
  | r0 :: rows, 0, m, r, hl, h, hm => by
    simp at h
    subst h
    rw [List.set_cons_zero, List.flatten_cons, List.flatten_cons, Nat.zero_mul, Nat.zero_add, List.set_append_left _ _ (by rw [hl r0 (by simp)]; exact hm)]
  | r0 :: rows, j + 1, m, r, hl, h, hm => by
    have h0 := hl r0 (by simp)
    have e : (j + 1) * k + m - r0.length = j * k + m := by rw [h0, Nat.succ_mul]; omega
    rw [List.set_cons_succ, List.flatten_cons, List.flatten_cons, List.set_append_right _ _ (by rw [h0, Nat.succ_mul]; omega), e, flatten_set u (fun r hr => hl r (by simp [hr])) (by simpa using h) hm]

section
variable {w0 w : World} {B : List Res}
theorem Held.row_store {k : Nat} {e : TypeId} {g c nr : Nat} {rows : List (List Value)} (hnr : rows.length = nr) (h : Held w0 w (rRows k e (.slice (some ⟨g, 0, none⟩) nr c) rows :: B)) {j : Nat} {r : List Value} (hj : rows[j]? = some r) {m : Nat} (hm : m < k) (u : Value) :
    Held w0 (w.setCell ⟨g, j * k + m, none⟩ u) (rRows k e (.slice (some ⟨g, 0, none⟩) nr c) (rows.set j (r.set m u)) :: B) ∧ w.frozen? ⟨g, j * k + m, none⟩ = false := by
  subst hnr
  obtain ⟨F, ⟨hl, hown, hF⟩, nF, -, hback⟩ := Held.use (l1 := []) h
  have hjl : j < rows.length := (List.getElem?_eq_some_iff.1 hj).1
  obtain ⟨h1, h2⟩ := hown
  rcases h2 with ⟨hv, hz⟩ | ⟨g', cap, cur, hv, hb, hg, r1, r2, r3, r4⟩
  · omega
  · injection hv with e1 e2 e3
    injection e1 with e1
    injection e1 with e1
    subst e1 e3
    have hfz : w.frozen? ⟨g, j * k + m, none⟩ = false := by simp [World.frozen?, hg]
    refine ⟨hback _ (rRows k e (.slice (some ⟨g, 0, none⟩) rows.length c) (rows.set j (r.set m u))) F ⟨?_, ⟨?_, .inr ⟨g, c, cur.setIfInBounds (j * k + m) u, by rw [List.length_set], hb, ?_, by rw [List.length_set]; exact r1, r2, by simpa using r3, ?_⟩⟩, hF⟩ ⟨(Mod.refl _ w).setCell (fun _ => by rw [hF]; simp [Value.ownBlock]) _, nF, fun b hb => .inl hb⟩, hfz⟩
    · intro r' hr'
      rcases List.mem_or_eq_of_mem_set hr' with h | h
      · exact hl r' h
      · rw [h, List.length_set]; exact hl r (List.mem_of_getElem? hj)
    · rw [flatten_set u hl hj hm, List.length_set, List.length_set]; exact h1
    · simp [World.setCell, Array.getElem?_modify, hg]
    · rw [flatten_set u hl hj hm, List.length_set, Array.toList_setIfInBounds, List.take_set, r4]
end

/-! ### what is kept -/
def keepsG {α : Type} : List α → List Bool → List α
  | a :: l, k :: ks => if k then a :: keepsG l ks else keepsG l ks
  | _, _ => []
theorem keepsG_map {α β : Type} (f : α → β) : ∀ (l : List α) (ks : List Bool), (keepsG l ks).map f = keepsG (l.map f) ks
  | [], ks => by cases ks <;> rfl
  | a :: l, [] => rfl
  | a :: l, k :: ks => by
    simp only [keepsG, List.map_cons]
    split
    · rw [List.map_cons, keepsG_map f l ks]
    · exact keepsG_map f l ks
theorem keeps_eq : ∀ (l : List Deed) (ks : List Bool), keeps l ks = keepsG l ks
  | [], ks => by cases ks <;> rfl
  | a :: l, [] => rfl
  | a :: l, k :: ks => by simp only [keepsG, keeps]; rw [keeps_eq l ks]
theorem keepsG_mem {α : Type} : ∀ {l : List α} {ks : List Bool} {a : α}, a ∈ keepsG l ks → a ∈ l
  | [], ks, a, h => by cases ks <;> simp [keepsG] at h
  | b :: l, [], a, h => by simp [keepsG] at h
  | b :: l, k :: ks, a, h => by
    simp only [keepsG] at h
    split at h
    · rcases List.mem_cons.1 h with h | h
      · simp [h]
      · simp [keepsG_mem h]
    · simp [keepsG_mem h]
theorem keepsG_nil_r {α : Type} (l : List α) : keepsG l [] = [] := by cases l <;> rfl
theorem keepsG_succ {α : Type} : ∀ {l : List α} {ks : List Bool} {k : Nat} (hk : k < l.length), keepsG (l.take (k + 1)) ks = keepsG (l.take k) ks ++ (if ks[k]? = some true then [l[k]] else [])
  | a :: l, [], k, hk => by simp [keepsG_nil_r]
  | a :: l, b :: ks, 0, hk => by
    cases b <;> simp [keepsG]
    all_goals cases ks <;> rfl
  | a :: l, b :: ks, k + 1, hk => by
    have ih := keepsG_succ (l := l) (ks := ks) (k := k) (by simpa using hk)
    simp only [List.take_succ_cons, keepsG, ih, List.getElem?_cons_succ, List.getElem_cons_succ]
    split <;> simp
theorem keepsG_len {α : Type} : ∀ (l : List α) (ks : List Bool), (keepsG l ks).length ≤ l.length
  | [], ks => by cases ks <;> simp [keepsG]
  | a :: l, [] => by simp [keepsG]
  | a :: l, k :: ks => by
    have := keepsG_len l ks
    simp only [keepsG]
    split <;> simp <;> omega

/-- how much of the last one is left. -/
def leftOver (n : Nat) (tear : Int) : Nat := n - min (max tear 0).toNat n
/-- pairs whose bytes are a beginning of those of ps. -/
def KeptOf (ps kp : List (Deed × Value)) : Prop := ∀ q ∈ kp, ∃ o ∈ ps, ∃ A c m, o.2 = .slice A o.1.b.length c ∧ m ≤ o.1.b.length ∧ q = ({ o.1 with b := o.1.b.take m }, .slice A m c)
theorem kept_src {w0 : World} {B : List Res} {ps kp : List (Deed × Value)} (h : KeptOf ps kp) {q : Deed × Value} (hq : q ∈ kp) {w : World} (hh : Held w0 w (rBig bytesLoc (ps.map bOf) :: B)) :
    ∃ A c, q.2 = .slice A q.1.b.length c ∧ q.1.b.length ≤ c ∧ c ≤ 9223372036854775807 ∧ Rd (fun _ => True) w q.2 (bytesV q.1.b) := by
  obtain ⟨o, ho, A, c, m, e1, e2, rfl⟩ := h q hq
  have hr := hh.bytes_at ho
  obtain ⟨A', c', hv, h1, h2, -⟩ := id hr
  rw [bytesV_length] at hv h1
  rw [e1] at hv
  injection hv with _ _ h3
  subst h3
  rw [e1] at hr
  have hr2 := hr.take e2
  have hl : (o.1.b.take m).length = m := by rw [List.length_take]; omega
  refine ⟨A, c, by simp only [hl], by simp only [hl]; omega, by unfold maxLen at h2; exact h2, ?_⟩
  simp only
  unfold bytesV at hr2 ⊢
  rw [List.map_take]
  exact hr2
theorem kept_all {w0 w : World} {B : List Res} {ps : List (Deed × Value)} (ks : List Bool) (hh : Held w0 w (rBig bytesLoc (ps.map bOf) :: B)) : KeptOf ps (keepsG ps ks) := by
  intro q hq
  have hqp := keepsG_mem hq
  obtain ⟨A, c, hv, -, -⟩ := hh.bytes_form hqp
  refine ⟨q, hqp, A, c, q.1.b.length, hv, Nat.le_refl _, ?_⟩
  rw [List.take_length, ← hv]
def cutPair (q : Deed × Value) (m : Nat) : Deed × Value := ({ q.1 with b := q.1.b.take m }, match q.2 with | .slice A _ c => .slice A m c | v => v)
theorem kept_cut {ps init : List (Deed × Value)} {q : Deed × Value} (h : KeptOf ps (init ++ [q])) {m : Nat} (hm : m ≤ q.1.b.length) : KeptOf ps (init ++ [cutPair q m]) := by
  intro x hx
  rcases List.mem_append.1 hx with hx | hx
  · exact h x (by simp [hx])
  · rw [List.mem_singleton.1 hx]
    obtain ⟨o, ho, A, c, k, e1, e2, rfl⟩ := h q (by simp)
    simp only [List.length_take] at hm
    refine ⟨o, ho, A, c, m, e1, by omega, ?_⟩
    simp only [cutPair, List.take_take]
    rw [Nat.min_eq_left (by omega)]
theorem torn_snoc (l : List Deed) (a : Deed) (tear : Int) : torn (l ++ [a]) tear = if a.kind = 0 then l ++ [{ a with b := a.b.take (leftOver a.b.length tear) }] else l ++ [a] := by
  unfold torn leftOver
  simp only [List.getLast?_concat, List.dropLast_concat]
theorem torn_nil (tear : Int) : torn [] tear = [] := rfl

def boolsV (l : List Bool) : List Value := l.map Value.bool
theorem rd_bool {S : Nat → Prop} {w : World} {A : Option Addr} {n c : Nat} {ks : List Bool} (h : Rd S w (.slice A n c) (boolsV ks)) {k : Nat} {b : Bool} (hk : ks[k]? = some b) : ∃ g off, A = some ⟨g, off, none⟩ ∧ w.cell? ⟨g, off + k, none⟩ = some (.bool b) := by
  obtain ⟨A', c', hv, -, -, hA⟩ := h
  injection hv with e1 _ _
  subst e1
  obtain ⟨g, off, ha, -, hc⟩ := hA (by intro e; unfold boolsV at e; have := List.map_eq_nil_iff.1 e; rw [this] at hk; simp at hk)
  exact ⟨g, off, ha, hc k _ (by unfold boolsV; rw [List.getElem?_map, hk]; rfl)⟩
end Go.Proofs.YtdbhccehbjhbpaaGreatDoor
