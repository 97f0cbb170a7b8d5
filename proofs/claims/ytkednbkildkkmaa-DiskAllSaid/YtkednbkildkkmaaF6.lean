/- disk: Sync, rest, Flush. -/
import Derived.Test.YtkednbkildkkmaaF5
namespace Go.Proofs.Ytkednbkildkkmaa
open Go.RowKit
open Disk

section
variable {w0 w : World} {B : List Res} {p bh bl : Nat} {cs : Array Value} {f : Files} {name : Bytes}
theorem freeLook_files {x : Res} (hn : name.length ≤ 9223372036854775807) : FreeLook w0 (x :: rFiles bl f :: B) p cs bh bl f name := by
  intro w' h' h
  obtain ⟨ys, hp, h1⟩ := Held.files_open (A := [_, _, _]) h
  refine ⟨fun hg => (Held.files_none (A := [_, _, _]) h1 hp hn hg).1 false, fun x hg => ?_⟩
  obtain ⟨ys1, ys2, b, s, -, hlk, h2⟩ := Held.files_some (A := [_, _, _]) h1 hp hn hg
  obtain ⟨A, c, rfl, q1, q2⟩ := Held.form (l1 := [_, _, _, _, _, _]) h2
  exact ⟨b, A, c, hlk false, (Held.blk (l1 := [_, _, _, _, _]) h2).cell rfl, q1, q2⟩
theorem freeLook_iter {it : Nat} {todo : List (Value × Value)} {ys : List ((Bytes × Bytes) × Value)} (hp : (ys.map (·.1)).Perm f) (hn : name.length ≤ 9223372036854775807) :
    FreeLook w0 (rIter Try.prog 9 it bl (filesL ys) todo :: rBig fileLoc ys :: B) p cs bh bl f name := by
  intro w' h' h
  have h1 := Held.range_end (A := [_, _]) h
  refine ⟨fun hg => (Held.files_none (A := [_, _]) h1 hp hn hg).1 false, fun x hg => ?_⟩
  obtain ⟨ys1, ys2, b, s, -, hlk, h2⟩ := Held.files_some (A := [_, _]) h1 hp hn hg
  obtain ⟨A, c, rfl, q1, q2⟩ := Held.form (l1 := [_, _, _, _, _]) h2
  exact ⟨b, A, c, hlk false, (Held.blk (l1 := [_, _, _, _]) h2).cell rfl, q1, q2⟩
theorem free_held {d : Dk} (h : Held w0 w (rDisk p d :: B)) (hn : name.length ≤ 9223372036854775807) :
    Calls Try.prog 35 #[.pointer (some ⟨p, 0, none⟩), sv name] w fun e w' => e = .returned (.tuple #[]) ∧ Held w0 w' (rDisk p { d with held := freed d.held d.lasting name } :: B) := by
  obtain ⟨i, h1⟩ := h.dopen
  refine (free_gen (Held.pull4 h1).pull1 (cs := diskCells d i) rfl rfl hn (freeLook_files hn)).mono ?_
  rintro e w' ⟨he, g⟩
  exact ⟨he, Held.dshut (d := { d with held := freed d.held d.lasting name }) i (Held.push4 (Held.pull1 g))⟩
end

set_option maxRecDepth 100000 in
set_option maxHeartbeats 1000000 in
theorem sync_held {w0 w : World} {B : List Res} {p : Nat} {d : Dk} (h : Held w0 w (rDisk p d :: B)) (hok : d.Ok) (hpl : d.pending.length ≤ 1000000) (name : Bytes) (hn : name.length ≤ 9223372036854775807) :
    Calls Try.prog 14 #[.pointer (some ⟨p, 0, none⟩), sv name] w fun e w' => e = .returned (.int .i64 (d.sync name).2) ∧ Held w0 w' (rDisk p (d.sync name).1 :: B) := by
  have hb := (h.block 9 #[sv name]).pull1
  have hc : ∀ (w' : World) (d' : Dk), Held w0 w' (rDisk p d' :: rBlk w.heap.size 9 #[sv name] :: B) → w'.cell? ⟨w.heap.size, 0, none⟩ = some (sv name) := fun _ _ h => (Held.blk (l1 := [_]) h).cell rfl
  have c0 := hc _ _ hb
  have HC := hid hc
  clear hc
  cases hm : may name with
  | false =>
    have HE := hid (show d.sync name = (d, 6) by unfold Dk.sync Dk.look; simp [hm])
    have HL := hid (look_bad hb hn hm)
    clear h hb hm hok
    unfold sv at HL c0 ⊢
    go_enter Try.func14, Try.ntmps14
    go_wp2_with fail
    refine HL.out.mono ?_
    rintro e w1 ⟨rfl, g1⟩
    have G1 := hid g1
    clear g1
    go_wp2_with fail
    go_ret
    rw [HE.out]
    exact ⟨rfl, Held.drop0 (Held.pull1 G1.out)⟩
  | true =>
    cases hg : Dict.get d.seen name with
    | none =>
      have HE := hid (show d.sync name = (d, 20) by unfold Dk.sync Dk.look; simp [hm, hg])
      have HL := hid (look_miss hb hn hm hg)
      clear h hb hm hg hok
      unfold sv at HL c0 ⊢
      go_enter Try.func14, Try.ntmps14
      go_wp2_with fail
      refine HL.out.mono ?_
      rintro e w1 ⟨rfl, g1⟩
      have G1 := hid g1
      clear g1
      go_wp2_with fail
      go_ret
      rw [HE.out]
      exact ⟨rfl, Held.drop0 (Held.pull1 G1.out)⟩
    | some x =>
      have HE := hid (show d.sync name = ({ d.settle (fun a => a.name == name) with held := freed d.held (d.settle (fun a => a.name == name)).lasting name }, 0) by unfold Dk.sync Dk.look; simp [hm, hg])
      have HL := hid (look_hit hb hn hm hg)
      have HK := hid (And.intro hok hn)
      clear h hb hm hg hok
      unfold sv at HL c0 ⊢
      go_enter Try.func14, Try.ntmps14
      go_wp2_with fail
      refine HL.out.mono ?_
      rintro e w1 ⟨b, A, c, rfl, -, q1, q2, -, g1⟩
      have CS := hid (settle_sync g1 HK.out.1 hpl)
      clear g1 HL c0
      go_wp2_with fail
      refine CS.out.mono ?_
      rintro e w2 ⟨rfl, g2⟩
      have c2 := HC.out _ _ g2
      have CF := hid (free_held g2 HK.out.2)
      unfold sv at c2 CF
      clear g2 CS
      go_wp2_with fail
      refine CF.out.mono ?_
      rintro e w3 ⟨rfl, g3⟩
      have G3 := hid g3
      clear g3
      go_wp2_with fail
      go_ret
      rw [HE.out]
      exact ⟨rfl, Held.drop0 (Held.pull1 G3.out)⟩

/-! ### rest -/
def RestAt (w0 : World) (B : List Res) (p : Nat) (d : Dk) (bs bl bh : Nat) (vp : Value) (it : Nat) (ys : List ((Bytes × Bytes) × Value)) (w : World) (n : Nat) : Prop :=
  ∃ (ds : List (Bytes × Bytes)) (ts : List ((Bytes × Bytes) × Value)) (todo : List (Value × Value)), (ds ++ ts.map (·.1)).Perm (ys.map (·.1)) ∧ todo.Perm (filesL ts) ∧ ts.length = n ∧
    Held w0 w (rBlk p 52 (diskCells d ⟨bs, bl, bh, vp⟩) :: rHeld bh (lens ds) :: rIter Try.prog 9 it bl (filesL ys) todo :: rBig fileLoc ys :: rFiles bs d.seen :: rActs vp d.pending :: B)

theorem freed_lens {ds : List (Bytes × Bytes)} {f : Files} {n x : Bytes} (hg : Dict.get f n = some x) (hn : n ∉ ds.map (·.1)) : freed (lens ds) f n = lens ((n, x) :: ds) := by
  have h0 : Dict.get (lens ds) n = none := get_notin fun h => hn (lens_names h)
  unfold freed
  rw [hg, lens_cons]
  simp only
  rw [del_none h0, put_new h0]
theorem lens_perm {f g : List (Bytes × Bytes)} (h : f.Perm g) : (lens f).Perm (lens g) := (h.filter _).map _

theorem rest_start {w0 w : World} {B : List Res} {p : Nat} {d : Dk} (h : Held w0 w (rDisk p d :: B)) :
    ∃ bs bl bh vp w1 w2 it ys, (ys.map (·.1)).Perm d.lasting ∧ w.cell? ⟨p, 4, none⟩ = some (.map (some bh)) ∧ (∀ ty, (Builtin.clear_ #[50] ty #[.map (some bh)]).run Try.prog w = .ok (.tuple #[]) w1) ∧ w1.cell? ⟨p, 2, none⟩ = some (.map (some bl)) ∧
      (Instr.range 48 (.map (some bl))).run Try.prog w1 = .ok (.pointer (some ⟨it, 0, none⟩)) w2 ∧ RestAt w0 B p d bs bl bh vp it ys w2 ys.length := by
  obtain ⟨⟨bs, bl, bh, vp⟩, h1⟩ := h.dopen
  have c4 := (Held.blk0 h1).disk.c4
  obtain ⟨w1, hr1, g1⟩ := Held.map_clear (A := []) Try.underlying50 (Held.pull4 h1)
  have c2 : w1.cell? ⟨p, 2, none⟩ = some (.map (some bl)) := (Held.blk (l1 := [_]) g1).cell rfl
  -- held, blk, seen, lasting, acts
  obtain ⟨ys, hp, g2⟩ := Held.files_open (A := [_, _, _]) g1
  -- held, blk, seen, map, big, acts
  obtain ⟨w2, hr2, g3⟩ := Held.range (A := [_, _, _]) Try.underlying48 g2
  refine ⟨bs, bl, bh, vp, w1, w2, _, ys, hp, c4, hr1, c2, hr2, [], ys, filesL ys, .refl _, .refl _, rfl, ?_⟩
  -- held, blk, seen, iter, big, acts
  exact Held.push4 (Held.pull2 (Held.push1 g3))

theorem rest_step {w0 w : World} {B : List Res} {p : Nat} {d : Dk} {bs bl bh it : Nat} {vp : Value} {ys ts1 ts2 : List ((Bytes × Bytes) × Value)} {y : (Bytes × Bytes) × Value} {ds : List (Bytes × Bytes)} {todo : List (Value × Value)}
    (hok : Dict.Ok d.lasting) (hp : (ys.map (·.1)).Perm d.lasting) (hd : (ds ++ (ts1 ++ y :: ts2).map (·.1)).Perm (ys.map (·.1))) (hq : (filesL (ts1 ++ ts2)).Perm todo)
    (h : Held w0 w (rBlk p 52 (diskCells d ⟨bs, bl, bh, vp⟩) :: rHeld bh (freed (lens ds) d.lasting y.1.1) :: rIter Try.prog 9 it bl (filesL ys) todo :: rBig fileLoc ys :: rFiles bs d.seen :: rActs vp d.pending :: B)) :
    RestAt w0 B p d bs bl bh vp it ys w (ts1 ++ ts2).length := by
  have hpf : (ds ++ (ts1 ++ y :: ts2).map (·.1)).Perm d.lasting := hd.trans hp
  have hnd : ((ds ++ (ts1 ++ y :: ts2).map (·.1)).map (·.1)).Nodup := (hpf.map _).nodup_iff.2 hok
  have hnot : y.1.1 ∉ ds.map (·.1) := by
    rw [List.map_append, List.nodup_append] at hnd
    intro hy
    exact hnd.2.2 _ hy y.1.1 (by simp) rfl
  have hget : Dict.get d.lasting y.1.1 = some y.1.2 := get_of_mem hok (hpf.mem_iff.1 (by simp))
  rw [freed_lens hget hnot] at h
  refine ⟨y.1 :: ds, ts1 ++ ts2, todo, ?_, hq.symm, rfl, h⟩
  refine List.Perm.trans ?_ hd
  rw [List.map_append, List.map_append, List.map_cons, List.cons_append, ← List.append_assoc, ← List.append_assoc]
  exact List.perm_middle.symm

set_option maxRecDepth 100000 in
set_option maxHeartbeats 1000000 in
theorem rest_held {w0 w : World} {B : List Res} {p : Nat} {d : Dk} (h : Held w0 w (rDisk p d :: B)) (hok : Dict.Ok d.lasting) (hsz : ∀ n x, Dict.get d.lasting n = some x → n.length ≤ 9223372036854775807 ∧ x.length ≤ 1073741824) :
    Calls Try.prog 41 #[.pointer (some ⟨p, 0, none⟩)] w fun e w' => e = .returned (.tuple #[]) ∧ Held w0 w' (rDisk p d.rest :: B) := by
  obtain ⟨bs, bl, bh, vp, w1, w2, it, ys, hp, c4, hr1, c2, hr2, h0⟩ := rest_start h
  have H0 := hid h0
  have HG := hid (And.intro hok (And.intro hsz hp))
  clear h h0 hok hsz hp
  go_enter Try.func41, Try.ntmps41
  go_wp2_with fail
  clear c4 hr1 c2 hr2
  go_loopw [2] (fun _ wr => ∃ n, RestAt w0 B p d bs bl bh vp it ys wr n) (fun _ wr => wr.rangeLeft bl it)
  case atStart => exact ⟨_, H0.out⟩
  case round =>
    obtain ⟨n, ds, ts, todo, hd, ht, hn, hh⟩ := hrel
    have HN := hid (Held.pull2 hh).next0
    have HI := hid (And.intro hd (And.intro ht hh))
    clear hd ht hh hn
    go_wp2_with (at_next; refine wpList_next_ex _ rfl _ rfl _ rfl _ _ HN.out ?c0 ?c1)
    case c0 =>
      rintro rfl
      obtain ⟨hd, ht, hh⟩ := HI.out
      have hts : ts = [] := by
        have := ht.length_eq
        simp only [filesL, List.length_nil, List.length_map] at this
        exact List.eq_nil_of_length_eq_zero this.symm
      subst hts
      obtain ⟨hok, hsz, hp⟩ := HG.out
      have hdl : ds.Perm d.lasting := (by simpa using hd : ds.Perm _).trans hp
      have g1 := Held.files_close (A := [_, _]) hp (Held.range_end (A := [_, _]) hh)
      have b2 : wr.cell? ⟨p, 2, none⟩ = some (.map (some bl)) := (Held.blk0 g1).cell rfl
      have CC := hid (copied_held (A := [_, _]) g1 (fun q hq => (hsz q.1 q.2 (get_of_mem hok hq)).2) (fun q hq => (hsz q.1 q.2 (get_of_mem hok hq)).1))
      have HP := hid hdl
      clear hd ht hh hdl g1 hok hsz hp HI HN
      go_wp2_with fail
      refine CC.out.mono ?_
      rintro e w3 ⟨bo, rfl, g2⟩
      have b1 : w3.cell? ⟨p, 1, none⟩ = some (.map (some bs)) := (Held.blk0 g2).cell rfl
      have f1 := (Held.blk0 g2).frozen 1
      have g3 := Held.store (l1 := []) g2 1 (.map (some bo))
      -- blk, held, new files, lasting, seen, acts
      have g4 := Held.held_perm (A := [_]) g3 (lens_perm HP.out)
      have g5 := Held.drop0 (Held.pull4 g4)
      -- blk, held, new, lasting, acts
      have HX := hid (show Held w0 (w3.setCell ⟨p, 1, none⟩ (.map (some bo))) (rDisk p d.rest :: B) from Held.dshut (d := d.rest) ⟨bo, bl, bh, vp⟩ (by
        have e : (diskCells d ⟨bs, bl, bh, vp⟩).setIfInBounds 1 (.map (some bo)) = diskCells d.rest ⟨bo, bl, bh, vp⟩ := by simp [diskCells, Dk.rest]
        rw [e] at g5
        exact Held.push4 (Held.pull1 g5)))
      clear g2 g3 g4 g5 CC
      go_wp2_with fail
      go_end0
      exact ⟨rfl, HX.out⟩
    case c1 =>
      intro k v w3 hP
      obtain ⟨todo', hpm, hmem, hen, h2⟩ := hP
      obtain ⟨hd, ht, hh⟩ := HI.out
      obtain ⟨y, ts1, ts2, rfl, rfl, rfl, hq⟩ := files_pick (ht.symm.trans hpm)
      have h3 := Held.push2 h2
      have hyl : y.1 ∈ d.lasting := (hd.trans HG.out.2.2).mem_iff.1 (by simp)
      have hnl := (HG.out.2.1 y.1.1 y.1.2 (get_of_mem HG.out.1 hyl)).1
      have CF := hid (free_gen (f := d.lasting) (name := y.1.1) h3 rfl rfl hnl (freeLook_iter HG.out.2.2 hnl))
      have l1 := (Held.iterAt (A := [_, _]) hh).left
      have HJ := hid (And.intro hd (And.intro hq (And.intro l1 hpm.length_eq)))
      obtain ⟨bv, hbv⟩ : ∃ bv, bv = y.2 := ⟨_, rfl⟩
      clear hd ht hh hq h2 h3 hpm hmem l1 HI HN hbv
      unfold sv at hen CF
      go_wp2_with fail
      refine CF.out.mono ?_
      rintro e w4 ⟨rfl, g4⟩
      have l2 := (Held.iterAt (A := [_, _]) g4).left
      have HR := hid (rest_step HG.out.1 HG.out.2.2 HJ.out.1 HJ.out.2.1 g4)
      have HM := hid (show w4.rangeLeft bl it < wr.rangeLeft bl it by
        rw [l2, HJ.out.2.2.1, HJ.out.2.2.2]
        simp)
      clear g4 l2 CF
      go_wp2_with fail
      exact ⟨⟨_, HR.out⟩, HM.out⟩

set_option maxRecDepth 100000 in
theorem flush_held {w0 w : World} {B : List Res} {p : Nat} {d : Dk} (h : Held w0 w (rDisk p d :: B)) (hok : d.Ok) (hpl : d.pending.length ≤ 1000000) :
    Calls Try.prog 20 #[.pointer (some ⟨p, 0, none⟩)] w fun e w' => e = .returned (.int .i64 0) ∧ Held w0 w' (rDisk p d.flush :: B) := by
  obtain ⟨i, hs, -, -⟩ := h.view
  have HM := hid (dmade_any w p (some i.bs) hs.c1)
  have CS := hid (settle_flush h hok hpl)
  have HS := hid (show ∀ n x, Dict.get (d.settle fun _ => true).lasting n = some x → n.length ≤ 9223372036854775807 ∧ x.length ≤ 1073741824 from fun n x hx => by
    rw [hok.get_flushed] at hx
    have h1 := Dk.Ok.len hok hx
    have h2 := may_len (hok.seenLe n x hx).1
    exact ⟨by omega, by omega⟩)
  have HO := hid (show Dict.Ok (d.settle fun _ => true).lasting from dones_ok _ hok.lastOk)
  clear h hok hs
  go_enter Try.func20, Try.ntmps20
  go_wp2_with (first
    | (go_at_call 39; refine HM.out.mono ?_; rintro e w' ⟨rfl, rfl⟩))
  refine CS.out.mono ?_
  rintro e w1 ⟨rfl, g1⟩
  have CR := hid (rest_held g1 HO.out HS.out)
  clear g1
  go_wp2_with fail
  refine CR.out.mono ?_
  rintro e w2 ⟨rfl, g2⟩
  have G2 := hid g2
  clear g2
  go_wp2_with fail
  go_ret
  exact ⟨rfl, G2.out⟩
end Go.Proofs.Ytkednbkildkkmaa
