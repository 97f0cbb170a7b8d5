/- disk: files.copied. -/
import Derived.Test.YtkednbkildkkmaaD6
namespace Go.Proofs.Ytkednbkildkkmaa
open Go.RowKit
open Disk

/-- what the step of a range hands over. -/
def NextPost (w0 : World) (A B : List Res) (it bm : Nat) (L todo : List (Value × Value)) (k v : Value) (w' : World) : Prop :=
  ∃ todo', todo.Perm ((k, v) :: todo') ∧ (k, v) ∈ L ∧ (Instr.entry (.pointer (some ⟨it, 0, none⟩))).run Try.prog w' = .ok (.tuple #[k, v]) w' ∧ Held w0 w' (A ++ rIter Try.prog 9 it bm L todo' :: B)

/-- a range over files half way: ds came, ts are to come; the new files are those of ds. -/
def copyRes (it bo bm : Nat) (ys zs : List ((Bytes × Bytes) × Value)) (todo : List (Value × Value)) : List Res :=
  [rMapB Try.prog 9 bo (filesL zs), rBig fileLoc zs, rIter Try.prog 9 it bm (filesL ys) todo, rBig fileLoc ys]
def CopyAt (w0 : World) (A B : List Res) (it bo bm : Nat) (ys : List ((Bytes × Bytes) × Value)) (w : World) (n : Nat) : Prop :=
  ∃ ds ts zs todo, (ds ++ ts).Perm ys ∧ todo.Perm (filesL ts) ∧ zs.map (·.1) = ds.map (·.1) ∧ ts.length = n ∧ Held w0 w (A ++ (copyRes it bo bm ys zs todo ++ B))

theorem perm_copy {α : Type} (o g i y : α) (A B : List α) : (g :: o :: (A ++ i :: y :: B)).Perm (A ++ ([o, g, i, y] ++ B)) := by
  have h : ([g, o] ++ A ++ (i :: y :: B)).Perm (A ++ [o, g] ++ (i :: y :: B)) := by
    refine List.Perm.append_right _ (List.perm_append_comm.trans (List.Perm.append_left _ ?_))
    exact List.Perm.swap _ _ _
  simpa using h

theorem IterAt.left {P : Program} {kt : TypeId} {w : World} {r b : Nat} {L todo : List (Value × Value)} (h : IterAt P kt w r b L todo) : w.rangeLeft b r = todo.length := by
  obtain ⟨es, clk, since, seen, c0, hb, hr, _, hl, _⟩ := h
  unfold World.rangeLeft
  rw [hb, hr]
  have := hl.length_eq
  simpa [entL] using this

theorem files_pick {ts : List ((Bytes × Bytes) × Value)} {k v : Value} {todo : List (Value × Value)} (h : (filesL ts).Perm ((k, v) :: todo)) :
    ∃ y ts1 ts2, ts = ts1 ++ y :: ts2 ∧ sv y.1.1 = k ∧ y.2 = v ∧ (filesL (ts1 ++ ts2)).Perm todo := by
  have hm : (k, v) ∈ filesL ts := h.mem_iff.2 (by simp)
  obtain ⟨y, hy, e⟩ := List.mem_map.1 hm
  obtain ⟨ts1, ts2, rfl⟩ := List.append_of_mem hy
  obtain ⟨e1, e2⟩ := Prod.mk.inj e
  refine ⟨y, ts1, ts2, rfl, e1, e2, ?_⟩
  have h2 : (filesL (ts1 ++ y :: ts2)).Perm ((k, v) :: filesL (ts1 ++ ts2)) := by
    unfold filesL
    rw [List.map_append, List.map_cons, List.map_append, e]
    exact List.perm_middle
  exact (List.perm_cons _).1 (h2.symm.trans h)

theorem file_at {w0 w : World} {A B : List Res} {ys : List ((Bytes × Bytes) × Value)} (h : Held w0 w (A ++ rBig fileLoc ys :: B)) {y : (Bytes × Bytes) × Value} (hy : y ∈ ys) :
    ∃ b s, y.2 = .pointer (some ⟨b, 0, none⟩) ∧ Blk w b 77 #[s] ∧ Rd (fun _ => True) w s (bytesV y.1.2) := by
  obtain ⟨ys1, ys2, rfl⟩ := List.append_of_mem hy
  have h1 := Held.big_split fileLoc h
  have h2 := Held.big_uncons (l1 := A ++ [rBig fileLoc ys1]) fileLoc (by simpa using h1)
  obtain ⟨⟨b, s⟩, hv, h3⟩ := Held.open_some (l1 := A ++ [rBig fileLoc ys1]) (Rs' := fun a : Nat × Value => [rBlk a.1 77 #[a.2], rBytes a.2 y.1.2]) (q := fun a => y.2 = .pointer (some ⟨a.1, 0, none⟩)) h2
  exact ⟨b, s, hv, Held.blk h3, Held.bytes (l1 := A ++ [rBig fileLoc ys1, rBlk b 77 #[s]]) (by simpa using h3)⟩

theorem copy_end {w0 w : World} {A B : List Res} {it bo bm : Nat} {f : Files} {ys ds ts zs : List ((Bytes × Bytes) × Value)} (hp : (ys.map (·.1)).Perm f) (hd : (ds ++ ts).Perm ys) (ht : ([] : List (Value × Value)).Perm (filesL ts)) (hz : zs.map (·.1) = ds.map (·.1))
    (hh : Held w0 w (A ++ (copyRes it bo bm ys zs [] ++ B))) : Held w0 w (A ++ rFiles bo f :: rFiles bm f :: B) := by
  have hts : ts = [] := by
    have := ht.length_eq
    simp only [filesL, List.length_nil, List.length_map] at this
    exact List.eq_nil_of_length_eq_zero this.symm
  subst hts
  rw [List.append_nil] at hd
  have h1 := Held.range_end (A := A ++ [rMapB Try.prog 9 bo (filesL zs), rBig fileLoc zs]) (B := rBig fileLoc ys :: B) (by simpa [copyRes] using hh)
  have h2 := Held.files_close (A := A ++ [rMapB Try.prog 9 bo (filesL zs), rBig fileLoc zs]) hp h1
  exact Held.files_close (A := A) (bm := bo) (ys := zs) (f := f) (by rw [hz]; exact (hd.map _).trans hp) (by simpa using h2)

theorem copy_step {w0 w : World} {A B : List Res} {it bo bm nb : Nat} {s : Value} {ys ds ts1 ts2 zs : List ((Bytes × Bytes) × Value)} {y : (Bytes × Bytes) × Value} {todo : List (Value × Value)} (hd : (ds ++ (ts1 ++ y :: ts2)).Perm ys) (hz : zs.map (·.1) = ds.map (·.1)) (hq : (filesL (ts1 ++ ts2)).Perm todo)
    (h : Held w0 w ((rBlk nb 77 #[s] :: rBytes s y.1.2 :: A) ++ rMapB Try.prog 9 bo ((sv y.1.1, .pointer (some ⟨nb, 0, none⟩)) :: filesL zs) :: rBig fileLoc zs :: rIter Try.prog 9 it bm (filesL ys) todo :: rBig fileLoc ys :: B)) :
    ∃ n, CopyAt w0 A B it bo bm ys w n := by
  refine ⟨_, y :: ds, ts1 ++ ts2, (y.1, .pointer (some ⟨nb, 0, none⟩)) :: zs, todo, ?_, hq.symm, by simp [hz], rfl, ?_⟩
  · refine List.Perm.trans ?_ hd
    rw [List.cons_append, ← List.append_assoc, ← List.append_assoc]
    exact List.perm_middle.symm
  · have h1 : Held w0 w (rFile (y.1, .pointer (some ⟨nb, 0, none⟩)) :: (A ++ rMapB Try.prog 9 bo ((sv y.1.1, .pointer (some ⟨nb, 0, none⟩)) :: filesL zs) :: rBig fileLoc zs :: rIter Try.prog 9 it bm (filesL ys) todo :: rBig fileLoc ys :: B)) := Held.close_some (l1 := []) (l2 := A ++ rMapB Try.prog 9 bo ((sv y.1.1, .pointer (some ⟨nb, 0, none⟩)) :: filesL zs) :: rBig fileLoc zs :: rIter Try.prog 9 it bm (filesL ys) todo :: rBig fileLoc ys :: B) (Rs' := fun a : Nat × Value => [rBlk a.1 77 #[a.2], rBytes a.2 y.1.2]) (q := fun a : Nat × Value => Value.pointer (some ⟨nb, 0, none⟩) = .pointer (some ⟨a.1, 0, none⟩)) (nb, s) rfl h
    have h2 := h1.perm (Rs' := (A ++ [rMapB Try.prog 9 bo ((sv y.1.1, .pointer (some ⟨nb, 0, none⟩)) :: filesL zs)]) ++ rFile (y.1, .pointer (some ⟨nb, 0, none⟩)) :: rBig fileLoc zs :: rIter Try.prog 9 it bm (filesL ys) todo :: rBig fileLoc ys :: B) (by
      simpa using (List.perm_middle (a := rFile (y.1, .pointer (some ⟨nb, 0, none⟩))) (l₁ := A ++ [rMapB Try.prog 9 bo ((sv y.1.1, .pointer (some ⟨nb, 0, none⟩)) :: filesL zs)]) (l₂ := rBig fileLoc zs :: rIter Try.prog 9 it bm (filesL ys) todo :: rBig fileLoc ys :: B)).symm)
    have h3 := Held.big_cons (l1 := A ++ [rMapB Try.prog 9 bo ((sv y.1.1, .pointer (some ⟨nb, 0, none⟩)) :: filesL zs)]) fileLoc (x := (y.1, .pointer (some ⟨nb, 0, none⟩))) h2
    simpa [copyRes, filesL] using h3

theorem copy_fresh {f : Files} {ys ds ts1 ts2 zs : List ((Bytes × Bytes) × Value)} {y : (Bytes × Bytes) × Value} (hok : Dict.Ok f) (hp : (ys.map (·.1)).Perm f) (hd : (ds ++ (ts1 ++ y :: ts2)).Perm ys) (hz : zs.map (·.1) = ds.map (·.1)) :
    ∀ p ∈ filesL zs, p.1 ≠ sv y.1.1 := by
  intro p hp' e
  obtain ⟨z, hz', rfl⟩ := List.mem_map.1 hp'
  have he : z.1.1 = y.1.1 := sv_inj e
  have hn : ((ds ++ (ts1 ++ y :: ts2)).map fun q => q.1.1).Nodup := by
    have h1 := ((hd.map fun q => q.1).trans hp).symm
    have h2 := Dict.Ok.perm hok h1
    unfold Dict.Ok at h2
    rwa [List.map_map] at h2
  have hzd : z.1 ∈ ds.map (·.1) := by rw [← hz]; exact List.mem_map.2 ⟨z, hz', rfl⟩
  obtain ⟨q, hq, e2⟩ := List.mem_map.1 hzd
  rw [List.map_append, List.nodup_append] at hn
  exact hn.2.2 q.1.1 (List.mem_map.2 ⟨q, hq, rfl⟩) y.1.1 (List.mem_map.2 ⟨y, by simp, rfl⟩) (by rw [e2, he])

set_option maxRecDepth 100000 in
set_option maxHeartbeats 4000000 in
theorem copied_held {w0 w : World} {A B : List Res} {bm : Nat} {f : Files} (h : Held w0 w (A ++ rFiles bm f :: B)) (hfs : ∀ p ∈ f, p.2.length ≤ 1073741824) (hns : ∀ p ∈ f, p.1.length ≤ 9223372036854775807) :
    Calls Try.prog 43 #[.map (some bm)] w fun e w' => ∃ bo, e = .returned (.map (some bo)) ∧ Held w0 w' (A ++ rFiles bo f :: rFiles bm f :: B) := by
  have hok := h.files_ok
  obtain ⟨ys, hp, h1⟩ := h.files_open
  have hmm := @run_makeMap Try.prog
  have h2 := h1.map_made Try.prog 9
  have HR := hid (Held.range (A := rMapB Try.prog 9 w.heap.size [] :: A) Try.underlying48 h2)
  have HG := hid (And.intro hok hp)
  clear h h1 h2 hok hp
  go_enter Try.func43, Try.ntmps43
  go_wp2_with (at_range; refine wpList_range_ex _ rfl _ 48 rfl (.map (some bm)) rfl _ _ HR.out ?c1)
  case c1 =>
    intro w1 hP
    have HB : CopyAt w0 A B (w.heap.size + 1) w.heap.size bm ys w1 ys.length := by
      refine ⟨[], ys, [], filesL ys, by simp, List.Perm.refl _, rfl, rfl, ?_⟩
      have h3 := Held.big_nil fileLoc hP
      exact h3.perm (by
        have := perm_copy (rMapB Try.prog 9 w.heap.size []) (rBig fileLoc []) (rIter Try.prog 9 (w.heap.size + 1) bm (filesL ys) (filesL ys)) (rBig fileLoc ys) A B
        exact this)
    have HB' := hid HB
    clear hP HB HR hmm
    generalize w.heap.size + 1 = it at *
    generalize w.heap.size = bo at *
    go_wp2_with fail
    go_loopw [4] (fun _ wr => ∃ n, CopyAt w0 A B it bo bm ys wr n) (fun _ wr => wr.rangeLeft bm it)
    case atStart => exact ⟨_, HB'.out⟩
    case round =>
      obtain ⟨n, ds, ts, zs, todo, hd, ht, hz, -, hh⟩ := hrel
      have HN : Hid (∀ ty, (todo = [] ∧ (Instr.next (.pointer (some ⟨it, 0, none⟩)) false ty).run Try.prog wr = .ok (.tuple #[.bool false]) wr) ∨ ∃ k v w', (Instr.next (.pointer (some ⟨it, 0, none⟩)) false ty).run Try.prog wr = .ok (.tuple #[.bool true, k, v]) w' ∧ NextPost w0 (A ++ [rMapB Try.prog 9 bo (filesL zs), rBig fileLoc zs]) (rBig fileLoc ys :: B) it bm (filesL ys) todo k v w') := hid (fun ty => Held.next (A := A ++ [rMapB Try.prog 9 bo (filesL zs), rBig fileLoc zs]) (B := rBig fileLoc ys :: B) (by simpa [copyRes] using hh) ty)
      have HI := hid (And.intro hd (And.intro ht (And.intro hz hh)))
      clear hh hd ht hz
      go_wp2_with (at_next; refine wpList_next_ex _ rfl _ rfl _ rfl _ _ HN.out ?c0 ?c1)
      case c0 =>
        rintro rfl
        go_wp2_with fail
        go_ret
        obtain ⟨hd, ht, hz, hh⟩ := HI.out
        exact ⟨bo, rfl, copy_end HG.out.2 hd ht hz hh⟩
      case c1 =>
        intro k v w2 hP
        obtain ⟨todo', hpm, hmem, hen, h2⟩ := hP
        obtain ⟨hd, ht, hz, hh⟩ := HI.out
        obtain ⟨y, ts1, ts2, rfl, rfl, rfl, hq⟩ := files_pick (ht.symm.trans hpm)
        obtain ⟨b, s, hv, hb, hr⟩ := file_at (A := A ++ [rMapB Try.prog 9 bo (filesL zs), rBig fileLoc zs, rIter Try.prog 9 it bm (filesL ys) todo']) (B := B) (by simpa using h2) (y := y) (hd.mem_iff.1 (by simp))
        have hyf : y.1 ∈ f := HG.out.2.mem_iff.1 (List.mem_map.2 ⟨y, hd.mem_iff.1 (by simp), rfl⟩)
        have hl1 := hfs y.1 hyf
        have hl2 := hns y.1 hyf
        rw [hv] at hen ⊢
        have hc := hb.cell (i := 0) rfl
        have CL := hid (clone_held h2 (fun _ => True) s y.1.2 hr (by omega))
        have HJ := hid (And.intro hd (And.intro hz (And.intro hq (And.intro hv (And.intro hpm hh)))))
        clear hd ht hz hh hq hv hb hr h2 hpm
        go_wp2_with fail
        refine CL.out.mono ?_
        rintro e w3 ⟨v1, rfl, h3⟩
        obtain ⟨vA, vc, rfl, -, -⟩ := Held.form (l1 := []) h3
        obtain ⟨hd, hz, hq, hv, hpm, hh⟩ := HJ.out
        have hno : ∀ p ∈ filesL zs, p.1 ≠ sv y.1.1 := copy_fresh HG.out.1 HG.out.2 hd hz
        have h4 := h3.block 77 #[.slice vA y.1.2.length vc]
        have HU := hid (Held.map_new (A := rBlk w3.heap.size 77 #[.slice vA y.1.2.length vc] :: rBytes (.slice vA y.1.2.length vc) y.1.2 :: A) (L := filesL zs) (bm := bo) strKeyed Try.underlying48 (by simpa using h4) (svKey y.1.1 hl2) hno (.pointer (some ⟨w3.heap.size, 0, none⟩)))
        clear h3 h4 hno hd hz hq hv hpm hh CL
        go_wp2_with (at_mapUpdate; refine wpList_mapUpdate_ex _ rfl _ _ _ 48 rfl _ _ _ rfl rfl rfl _ HU.out ?c2)
        case c2 =>
          intro w4 hP
          have HQ := hid hP
          clear hP HU
          go_wp2_with fail
          obtain ⟨hd, hz, hq, hv, hpm, hh⟩ := HJ.out
          have l1 := (Held.iterAt (A := A ++ [rMapB Try.prog 9 bo (filesL zs), rBig fileLoc zs]) (B := rBig fileLoc ys :: B) (by simpa [copyRes] using hh)).left
          have l2 := (Held.iterAt (A := (rBlk w3.heap.size 77 #[.slice vA y.1.2.length vc] :: rBytes (.slice vA y.1.2.length vc) y.1.2 :: A) ++ [rMapB Try.prog 9 bo ((sv y.1.1, .pointer (some ⟨w3.heap.size, 0, none⟩)) :: filesL zs), rBig fileLoc zs]) (B := rBig fileLoc ys :: B) (by simpa using HQ.out)).left
          refine ⟨copy_step hd hz hq HQ.out, ?_⟩
          rw [l1, l2, hpm.length_eq]
          simp
end Go.Proofs.Ytkednbkildkkmaa
