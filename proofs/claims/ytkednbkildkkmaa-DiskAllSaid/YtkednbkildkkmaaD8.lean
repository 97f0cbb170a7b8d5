/- disk: do. -/
import Derived.Test.YtkednbkildkkmaaD7
import Derived.Test.YtkednbkildkkmaaB10
import Derived.Test.YtkednbkildkkmaaD71
import Derived.Deep.AppendLies
namespace Go.Proofs.Ytkednbkildkkmaa
open Go.RowKit
open Disk

theorem Held.big_snoc {α : Type} {R : α → World → List Nat → Prop} (hR : Loc R) {w0 w : World} {A B : List Res} {l : List α} {x : α} (h : Held w0 w (A ++ rBig hR l :: Res.of hR x :: B)) : Held w0 w (A ++ rBig hR (l ++ [x]) :: B) := by
  have h1 := Held.big_nil hR h
  have h2 := h1.perm (Rs' := (A ++ [rBig hR l]) ++ Res.of hR x :: rBig hR [] :: B) (by
    have := (List.perm_middle (a := rBig hR []) (l₁ := A ++ [rBig hR l, Res.of hR x]) (l₂ := B)).symm
    simpa using this)
  have h3 := Held.big_cons hR h2
  exact Held.big_join hR (by simpa using h3)

theorem acts_close {w0 w : World} {A B : List Res} {v bv : Value} {l : List Deed} {a : Deed} {bvs : List Value} (hbl : bvs.length = l.length)
    (h : Held w0 w (A ++ rRows 4 72 v (List.zipWith actRow l bvs ++ [actRow a bv]) :: rBig bytesLoc (bvs.zip (l.map (·.b))) :: rBytes bv a.b :: B)) : Held w0 w (A ++ rActs v (l ++ [a]) :: B) := by
  have h0 : Held w0 w ((A ++ [rRows 4 72 v (List.zipWith actRow l bvs ++ [actRow a bv])]) ++ rBig bytesLoc (bvs.zip (l.map (·.b))) :: rBytes bv a.b :: B) := by simpa using h
  have h1 := Held.big_snoc (A := A ++ [rRows 4 72 v (List.zipWith actRow l bvs ++ [actRow a bv])]) bytesLoc (x := (bv, a.b)) h0
  refine Held.close_some (bvs ++ [bv]) (by simp [hbl]) ?_
  have e1 : List.zipWith actRow (l ++ [a]) (bvs ++ [bv]) = List.zipWith actRow l bvs ++ [actRow a bv] := by
    rw [List.zipWith_append hbl.symm]; rfl
  have e2 : (bvs ++ [bv]).zip ((l ++ [a]).map (·.b)) = bvs.zip (l.map (·.b)) ++ [(bv, a.b)] := by
    rw [List.map_append, List.zip_append (by simp [hbl])]; rfl
  rw [e1, e2]
  simpa using h1

theorem do_mid {w0 w : World} {A B : List Res} {pb p : Nat} {t : TypeId} {cs : Array Value} {d : Dk} {i : DiskIn} {f : Files} {a : Deed} {bv v : Value} {bvs : List Value} (hbl : bvs.length = d.pending.length)
    (h : Held w0 w ((rBlk pb t cs :: (A ++ [rBytes bv a.b, rBlk p 52 (diskCells d i), rFiles i.bs f, rFiles i.bl d.lasting])) ++ rRows 4 72 v (List.zipWith actRow d.pending bvs ++ [actRow a bv]) :: rBig bytesLoc (bvs.zip (d.pending.map (·.b))) :: rHeld i.bh d.held :: B)) :
    Held w0 (w.setCell ⟨p, 3, none⟩ v) ((rBlk pb t cs :: (A ++ [rBlk p 52 (diskCells d { i with vp := v })])) ++ rFiles i.bs f :: (rFiles i.bl d.lasting :: rActs v (d.pending ++ [a]) :: rHeld i.bh d.held :: B)) := by
  have h1 := Held.store (l1 := rBlk pb t cs :: (A ++ [rBytes bv a.b])) (by simpa using h) 3 v
  have h2 := h1.perm (Rs' := (rBlk pb t cs :: (A ++ [rBlk p 52 (diskCells d { i with vp := v }), rFiles i.bs f, rFiles i.bl d.lasting])) ++ rRows 4 72 v (List.zipWith actRow d.pending bvs ++ [actRow a bv]) :: rBig bytesLoc (bvs.zip (d.pending.map (·.b))) :: rBytes bv a.b :: rHeld i.bh d.held :: B) (by
    have e : (diskCells d i).setIfInBounds 3 v = diskCells d { i with vp := v } := by simp [diskCells]
    rw [e]
    have := (List.perm_middle (a := rBytes bv a.b) (l₁ := [rBlk p 52 (diskCells d { i with vp := v }), rFiles i.bs f, rFiles i.bl d.lasting, rRows 4 72 v (List.zipWith actRow d.pending bvs ++ [actRow a bv]), rBig bytesLoc (bvs.zip (d.pending.map (·.b)))]) (l₂ := rHeld i.bh d.held :: B)).symm
    simpa using (this.append_left A).cons (rBlk pb t cs))
  have h3 := acts_close hbl h2
  simpa using h3

theorem Try.infoAct : (Try.prog.info? 72).map (fun i => (i.zero, i.size, i.bytes)) = some (some (.agg #[.int .i64 0, .string ⟨#[]⟩, .int .i64 0, .slice none 0 0]), 4, 56) := by kernel_rfl

set_option maxRecDepth 100000 in
set_option maxHeartbeats 4000000 in
theorem ddo_held {w0 w : World} {A B : List Res} {p : Nat} {d : Dk} (a : Deed) (bA : Option Addr) (bc : Nat) (h : Held w0 w (A ++ rBytes (.slice bA a.b.length bc) a.b :: rDisk p d :: B))
    (hn : a.name.length ≤ 9223372036854775807) (hk : a.kind ≤ 2) (hsz : a.at_ + a.b.length ≤ 1073741824) (hpl : d.pending.length ≤ 1000000000) (hfs : ∀ x, Dict.get d.seen a.name = some x → x.length ≤ 1073741824) :
    Calls Try.prog 48 #[.pointer (some ⟨p, 0, none⟩), deedV a bA bc] w fun e w' => e = .returned (.tuple #[]) ∧ Held w0 w' (A ++ rDisk p (d.act a) :: B) := by
  obtain ⟨i, h1⟩ := Held.disk_open (A := A ++ [rBytes (.slice bA a.b.length bc) a.b]) (by simpa using h)
  have h2 : Held w0 (w.alloc (.cells #[.int .i64 a.kind, sv a.name, .int .i64 a.at_, .slice bA a.b.length bc] 72)) ((rBlk w.heap.size 72 #[.int .i64 a.kind, sv a.name, .int .i64 a.at_, .slice bA a.b.length bc] :: (A ++ [rBytes (.slice bA a.b.length bc) a.b, rBlk p 52 (diskCells d i)])) ++ rFiles i.bs d.seen :: ([rFiles i.bl d.lasting, rActs i.vp d.pending, rHeld i.bh d.held] ++ B)) := by
    simpa [diskRes] using h1.block 72 #[.int .i64 a.kind, sv a.name, .int .i64 a.at_, .slice bA a.b.length bc]
  have hcs : ∀ (w' : World) (f : Files), Held w0 w' ((rBlk w.heap.size 72 #[.int .i64 a.kind, sv a.name, .int .i64 a.at_, .slice bA a.b.length bc] :: (A ++ [rBytes (.slice bA a.b.length bc) a.b, rBlk p 52 (diskCells d i)])) ++ rFiles i.bs f :: ([rFiles i.bl d.lasting, rActs i.vp d.pending, rHeld i.bh d.held] ++ B)) →
      w'.cell? ⟨p, 1, none⟩ = some (.map (some i.bs)) ∧ w'.cell? ⟨w.heap.size, 0, none⟩ = some (.int .i64 a.kind) ∧ w'.cell? ⟨w.heap.size, 1, none⟩ = some (sv a.name) ∧ w'.cell? ⟨w.heap.size, 2, none⟩ = some (.int .i64 a.at_) ∧ w'.cell? ⟨w.heap.size, 3, none⟩ = some (.slice bA a.b.length bc) := by
    intro w' f h
    have b1 := Held.blk (l1 := []) h
    have b2 := Held.blk (l1 := rBlk w.heap.size 72 #[.int .i64 a.kind, sv a.name, .int .i64 a.at_, .slice bA a.b.length bc] :: (A ++ [rBytes (.slice bA a.b.length bc) a.b])) (by simpa using h)
    exact ⟨b2.cell rfl, b1.cell rfl, b1.cell rfl, b1.cell rfl, b1.cell rfl⟩
  obtain ⟨c1, c2, c3, c4, c5⟩ := hcs _ _ h2
  have HS := hid hcs
  have HH := hid h2
  have HC := hid (fdoes_held (h2.step ((Mod.refl _ _).drew)) a bA bc (fun w' M h => Held.bytes (l1 := rBlk w.heap.size 72 #[.int .i64 a.kind, sv a.name, .int .i64 a.at_, .slice bA a.b.length bc] :: A) (by simpa using h)) hn hk hsz hfs)
  clear h h1 h2 hcs
  unfold deedV at HC ⊢
  go_enter Try.func48, Try.ntmps48
  go_wp2_with fail
  go_region_held3 (fun w' => w'.cell? ⟨p, 1, none⟩ = some (.map (some i.bs)) ∧ w'.cell? ⟨w.heap.size, 0, none⟩ = some (.int .i64 a.kind) ∧ w'.cell? ⟨w.heap.size, 1, none⟩ = some (sv a.name) ∧ w'.cell? ⟨w.heap.size, 2, none⟩ = some (.int .i64 a.at_) ∧ w'.cell? ⟨w.heap.size, 3, none⟩ = some (.slice bA a.b.length bc))
    (first | exact ⟨c1, c2, c3, c4, c5⟩ | exact ⟨d1, d2, d3, d4, d5⟩)
    (first
      | (go_at_call 40; refine HC.out.mono ?_; rintro e w1 ⟨rfl, g1⟩; obtain ⟨d1, d2, d3, d4, d5⟩ := HS.out _ _ g1; have G1 := hid g1; clear g1))
  have g0 : Held w0 w1 ((rBlk w.heap.size 72 #[.int .i64 a.kind, sv a.name, .int .i64 a.at_, .slice bA a.b.length bc] :: (A ++ [rBytes (.slice bA a.b.length bc) a.b, rBlk p 52 (diskCells d i), rFiles i.bs (Files.does d.seen a), rFiles i.bl d.lasting])) ++ rActs i.vp d.pending :: (rHeld i.bh d.held :: B)) := by simpa using G1.out
  obtain ⟨bvs, hbl, g2⟩ := Held.open_some g0
  clear g0
  have hp3 : ∀ o, (w1.alloc o).cell? ⟨p, 3, none⟩ = some i.vp := fun o => (((Held.blk (l1 := rBlk w.heap.size 72 #[.int .i64 a.kind, sv a.name, .int .i64 a.at_, .slice bA a.b.length bc] :: (A ++ [rBytes (.slice bA a.b.length bc) a.b])) (by simpa using g2)) : Blk w1 p 52 (diskCells d i)).alloc o).cell rfl
  have hp3' : w1.cell? ⟨p, 3, none⟩ = some i.vp := ((Held.blk (l1 := rBlk w.heap.size 72 #[.int .i64 a.kind, sv a.name, .int .i64 a.at_, .slice bA a.b.length bc] :: (A ++ [rBytes (.slice bA a.b.length bc) a.b])) (by simpa using g2)) : Blk w1 p 52 (diskCells d i)).cell rfl
  have HG := hid g2
  obtain ⟨vA, vc, hvp, lv1, lv2⟩ := Held.rows_form (l1 := (rBlk w.heap.size 72 #[.int .i64 a.kind, sv a.name, .int .i64 a.at_, .slice bA a.b.length bc] :: (A ++ [rBytes (.slice bA a.b.length bc) a.b, rBlk p 52 (diskCells d i), rFiles i.bs (Files.does d.seen a), rFiles i.bl d.lasting]))) (by simpa using g2)
  obtain ⟨iA, iz, is, ib, iy⟩ := info_parts Try.infoAct
  have HI := hid (And.intro iz (And.intro is (And.intro ib iy)))
  have hrl : (List.zipWith actRow d.pending bvs).length = d.pending.length := by simp [hbl]
  rw [hrl] at hvp lv1
  have HR := hid hrl
  clear g2 hrl iz is ib iy
  rw [hvp] at hp3 hp3'
  have HV := hid hvp
  clear hvp
  go_wp2_with fail
  go_region_law (refine step_append_row (rBlk w.heap.size 72 #[.int .i64 a.kind, sv a.name, .int .i64 a.at_, .slice bA a.b.length bc] :: (A ++ [rBytes (.slice bA a.b.length bc) a.b, rBlk p 52 (diskCells d i), rFiles i.bs (Files.does d.seen a), rFiles i.bl d.lasting])) _ rfl _ _ 49 rfl 4 72 iA _ 56 Try.underlying49 HI.out.1 HI.out.2.1 HI.out.2.2.1 HI.out.2.2.2 rfl (by decide) _ _ _ HR.out HV.out.symm (HG.out.step (by repeat (first | exact Mod.refl _ _ | refine Mod.alloc ?_ _ | refine Mod.drew ?_))) _ _ [.int .i64 a.kind, sv a.name, .int .i64 a.at_, .slice bA a.b.length bc] rfl rfl (World.news_of_block (heap_alloc_new w1 _)) (by intro u hu; simp only [List.mem_cons, List.not_mem_nil, or_false] at hu; rcases hu with rfl | rfl | rfl | rfl <;> rfl) (by omega) (by unfold maxLen; omega) ?_; intro A' c' w2 q1 q2 g3; have G3 := hid g3; have hb3 := Held.blk (l1 := rBlk w.heap.size 72 #[.int .i64 a.kind, sv a.name, .int .i64 a.at_, .slice bA a.b.length bc] :: (A ++ [rBytes (.slice bA a.b.length bc) a.b])) (by simpa using g3); have hf3 := hb3.frozen 3; have hc3 := hb3.cell (i := 3) rfl; clear g3 hb3)
  all_goals
    obtain ⟨bh2, hB4⟩ : ∃ vq, Value.slice A' (d.pending.length + 1) c' = vq ∧ Held w0 (w2.setCell ⟨p, 3, none⟩ (.slice A' (d.pending.length + 1) c')) ((rBlk w.heap.size 72 #[.int .i64 a.kind, sv a.name, .int .i64 a.at_, .slice bA a.b.length bc] :: (A ++ [rBlk p 52 (diskCells d { i with vp := vq })])) ++ rFiles i.bs (Files.does d.seen a) :: (rFiles i.bl d.lasting :: rActs vq (d.pending ++ [a]) :: rHeld i.bh d.held :: B)) := by
      refine ⟨_, rfl, ?_⟩
      exact do_mid hbl G3.out
    obtain ⟨hvq, hB4⟩ := hB4
    clear hvq HG G3 hf3 hc3 hp3 hp3'
    generalize w2.setCell ⟨p, 3, none⟩ (.slice A' (d.pending.length + 1) c') = w3 at *
    have b4 := Held.blk (l1 := rBlk w.heap.size 72 #[.int .i64 a.kind, sv a.name, .int .i64 a.at_, .slice bA a.b.length bc] :: A) (by simpa using hB4)
    have b5 := Held.blk (l1 := []) hB4
    have e1 : w3.cell? ⟨p, 1, none⟩ = some (.map (some i.bs)) := b4.cell rfl
    have e4 : w3.cell? ⟨p, 4, none⟩ = some (.map (some i.bh)) := b4.cell rfl
    have k1 : w3.cell? ⟨w.heap.size, 1, none⟩ = some (sv a.name) := b5.cell rfl
    obtain ⟨ys, hp, h5⟩ := Held.files_open hB4
    have HB := hid hB4
    clear hB4 b4 b5
    cases hg : Dict.get (Files.does d.seen a) a.name with
    | none =>
      have hlk' : ∀ n, (Instr.lookup 48 (.map (some i.bs)) (sv a.name) false).run Try.prog (w3.drewN n) = .ok (.pointer none) (w3.drewN n) := fun n => ((h5.drewN n).files_none hp hn hg).1 false
      have hlk2 : (Instr.lookup 48 (.map (some i.bs)) (sv a.name) false).run Try.prog w3.drew = .ok (.pointer none) w3.drew := ((h5.step ((Mod.refl _ _).drew)).files_none hp hn hg).1 false
      clear h5 hlk'
      have HE := hid (show d.act a = { d with seen := Files.does d.seen a, pending := d.pending ++ [a] } by unfold Dk.act; rw [hg])
      clear hg
      go_wp2_with fail
      go_region
      go_wp2_with fail
      go_end0
      refine ⟨rfl, ?_⟩
      rw [HE.out]
      refine Held.disk_close { i with vp := bh2 } ?_
      have g := (Held.drop (l1 := []) HB.out).step ((Mod.refl _ _).drew)
      simpa [diskRes, diskCells] using g
    | some x =>
      obtain ⟨ys1, ys2, b, q, rfl, hlk, h6⟩ := (h5.step ((Mod.refl _ _).drew)).files_some hp hn hg
      have hlk2 : _ := hlk false
      have b6 := Held.blk (l1 := (rBlk w.heap.size 72 #[.int .i64 a.kind, sv a.name, .int .i64 a.at_, .slice bA a.b.length bc] :: (A ++ [rBlk p 52 (diskCells d { i with vp := bh2 })])) ++ [rMapB Try.prog 9 i.bs (filesL (ys1 ++ ((a.name, x), .pointer (some ⟨b, 0, none⟩)) :: ys2)), rBig fileLoc ys1]) (by simpa using h6)
      obtain ⟨qA, qc, rfl, r1, r2⟩ := Held.form (l1 := (rBlk w.heap.size 72 #[.int .i64 a.kind, sv a.name, .int .i64 a.at_, .slice bA a.b.length bc] :: (A ++ [rBlk p 52 (diskCells d { i with vp := bh2 })])) ++ [rMapB Try.prog 9 i.bs (filesL (ys1 ++ ((a.name, x), .pointer (some ⟨b, 0, none⟩)) :: ys2)), rBig fileLoc ys1, rBlk b 77 #[q]]) (by simpa using h6)
      have k6 : w3.cell? ⟨b, 0, none⟩ = some (.slice qA x.length qc) := b6.cell rfl
      have g9 : Held w0 w3.drew.drew ((rBlk w.heap.size 72 #[.int .i64 a.kind, sv a.name, .int .i64 a.at_, .slice bA a.b.length bc] :: (A ++ [rBlk p 52 (diskCells d { i with vp := bh2 }), rFiles i.bs (Files.does d.seen a), rFiles i.bl d.lasting, rActs bh2 (d.pending ++ [a])])) ++ rHeld i.bh d.held :: B) := by
        have := ((HB.out.step ((Mod.refl _ _).drew)).step ((Mod.refl _ _).drew))
        simpa using this
      have hlk3 := g9.held_lookup hn
      obtain ⟨hv, hhv⟩ : ∃ hv : Nat, hv = (Dict.get d.held a.name).getD 0 := ⟨_, rfl⟩
      rw [← hhv] at hlk3
      obtain ⟨w5, hr5, h5'⟩ := g9.held_put hn (max hv x.length)
      have f4 : w5.cell? ⟨p, 4, none⟩ = some (.map (some i.bh)) := (Held.blk (l1 := rBlk w.heap.size 72 #[.int .i64 a.kind, sv a.name, .int .i64 a.at_, .slice bA a.b.length bc] :: A) (by simpa using h5')).cell rfl
      have f1 : w5.cell? ⟨w.heap.size, 1, none⟩ = some (sv a.name) := (Held.blk (l1 := []) h5').cell rfl
      have f6 : w5.cell? ⟨b, 0, none⟩ = some (.slice qA x.length qc) := by
        obtain ⟨w6, hr6, h7⟩ := Held.held_put (w := w3.drew.drew) (A := (rBlk w.heap.size 72 #[.int .i64 a.kind, sv a.name, .int .i64 a.at_, .slice bA a.b.length bc] :: (A ++ [rBlk p 52 (diskCells d { i with vp := bh2 }), rMapB Try.prog 9 i.bs (filesL (ys1 ++ ((a.name, x), .pointer (some ⟨b, 0, none⟩)) :: ys2)), rBig fileLoc ys1, rBlk b 77 #[.slice qA x.length qc], rBytes (.slice qA x.length qc) x, rBig fileLoc ys2, rFiles i.bl d.lasting, rActs bh2 (d.pending ++ [a])]))) (B := B) (bm := i.bh) (h := d.held) (by simpa using (h6.step ((Mod.refl _ _).drew))) hn (max hv x.length)
        have : w6 = w5 := by
          rw [hr5] at hr6
          injection hr6 with _ h
          exact h.symm
        rw [this] at h7
        exact (Held.blk (l1 := (rBlk w.heap.size 72 #[.int .i64 a.kind, sv a.name, .int .i64 a.at_, .slice bA a.b.length bc] :: (A ++ [rBlk p 52 (diskCells d { i with vp := bh2 }), rMapB Try.prog 9 i.bs (filesL (ys1 ++ ((a.name, x), .pointer (some ⟨b, 0, none⟩)) :: ys2)), rBig fileLoc ys1]))) (by simpa using h7)).cell rfl
      have HP := hid h5'
      have HM := hid (show (if (hv : Int) < (x.length : Int) then (x.length : Int) else hv) = ((max hv x.length : Nat) : Int) by split <;> omega)
      have HE := hid (show d.act a = { d with seen := Files.does d.seen a, pending := d.pending ++ [a], held := Dict.put d.held a.name (max hv x.length) } by unfold Dk.act; rw [hg, hhv])
      clear hlk h5 h6 b6 hg g9 hhv h5'
      go_wp2_with fail
      go_region
      go_wp2_with fail
      go_region_held3 (fun w' => w'.cell? ⟨p, 4, none⟩ = some (.map (some i.bh)) ∧ w'.cell? ⟨w.heap.size, 1, none⟩ = some (sv a.name) ∧ w'.cell? ⟨b, 0, none⟩ = some (.slice qA x.length qc))
        (first | exact ⟨e4, k1, k6⟩ | exact ⟨f4, f1, f6⟩)
        (first
        | (refine step_max rfl _ _ 3 rfl hv x.length (max hv x.length : Nat) rfl rfl HM.out ?_))
      all_goals
        go_wp2_with fail
        go_end0
        refine ⟨rfl, ?_⟩
        rw [HE.out]
        refine Held.disk_close { i with vp := bh2 } ?_
        have g := (Held.drop (l1 := []) HP.out)
        simpa [diskRes, diskCells] using g
end Go.Proofs.Ytkednbkildkkmaa
