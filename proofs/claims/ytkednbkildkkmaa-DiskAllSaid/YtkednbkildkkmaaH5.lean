/- DiskApart: the walk. -/
import Derived.Test.YtkednbkildkkmaaH4
namespace Go.Proofs.Ytkednbkildkkmaa
open Go.RowKit
open Disk

/-- a row of one call, newly made. -/
theorem dos_one {w : World} {kd : Do} {bA kA : Option Addr} {bc kc B0 : Nat} (hat : DoAt B0 w kd bA bc kA kc) (hB : B0 ≤ w.heap.size) :
    Dos (w.alloc (.cells #[.int .i64 kd.op, .string ⟨kd.name.toArray⟩, .slice bA kd.b.length bc, .int .i64 kd.n, .slice kA kd.keep.length kc] 35)).heap.size (w.alloc (.cells #[.int .i64 kd.op, .string ⟨kd.name.toArray⟩, .slice bA kd.b.length bc, .int .i64 kd.n, .slice kA kd.keep.length kc] 35)) (.slice (some ⟨w.heap.size, 0, none⟩) 1 1) [kd] := by
  refine ⟨[(.slice bA kd.b.length bc, .slice kA kd.keep.length kc)], rfl, ⟨by simp [doRow], _, 1, rfl, Nat.le_refl _, by simp [maxLen], fun _ => ⟨w.heap.size, 0, rfl, by simp, fun i j r u hr hu => ?_⟩⟩, fun i d q h1 h2 => ?_⟩
  · have hn := heap_alloc_new w (.cells #[.int .i64 kd.op, .string ⟨kd.name.toArray⟩, .slice bA kd.b.length bc, .int .i64 kd.n, .slice kA kd.keep.length kc] 35)
    have hi : i = 0 := by
      have := (List.getElem?_eq_some_iff.1 hr).1
      simp at this
      omega
    subst hi
    simp at hr
    subst hr
    have hb : Blk (w.alloc (.cells #[.int .i64 kd.op, .string ⟨kd.name.toArray⟩, .slice bA kd.b.length bc, .int .i64 kd.n, .slice kA kd.keep.length kc] 35)) w.heap.size 35 #[.int .i64 kd.op, .string ⟨kd.name.toArray⟩, .slice bA kd.b.length bc, .int .i64 kd.n, .slice kA kd.keep.length kc] := hn
    have hc := hb.cell (i := j) (v := u) (by rw [← hu]; simp [doRow, sv])
    simpa using hc
  · have hi : i = 0 := by
      have := (List.getElem?_eq_some_iff.1 h1).1
      simp at this
      omega
    subst hi
    simp at h1 h2
    subst h1 h2
    have hlt : ∀ b, b < w.heap.size → b < B0 → b < (w.alloc (.cells #[.int .i64 kd.op, .string ⟨kd.name.toArray⟩, .slice bA kd.b.length bc, .int .i64 kd.n, .slice kA kd.keep.length kc] 35)).heap.size := fun b h _ => by simp; omega
    exact ⟨(hat.b.mono hlt).alloc _ |>.mono (fun _ _ h => h), (hat.keep.mono hlt).alloc _ |>.mono (fun _ _ h => h), hat.wf⟩
theorem DoAt.step {B0 : Nat} {w w' : World} {kd : Do} {bA kA : Option Addr} {bc kc : Nat} (h : DoAt B0 w kd bA bc kA kc) (hm : Mod (fun _ => False) w w') : DoAt B0 w' kd bA bc kA kc :=
  ⟨h.b.mod hm (fun _ _ h => h), h.keep.mod hm (fun _ _ h => h), h.wf⟩

open Go.ChangeShapes Go.WideShapes Go.ChangeAt in
set_option maxRecDepth 100000 in
theorem open_doR {H : Type} {enc : TypeId × Value → H} {W : World} {base : Nat} {v : Value} {d : DataW H} {p : List MemPlace} (ok : Value.okWide Try.prog W .any base 35 v)
    (h : DataW.Trod enc Try.prog W 0 (fun _ => true) true 35 v d p) : ∃ (kd : Do) (bA : Option Addr) (bc : Nat) (kA : Option Addr) (kc : Nat), v = .agg #[.int .i64 kd.op, .string ⟨kd.name.toArray⟩, .slice bA kd.b.length bc, .int .i64 kd.n, .slice kA kd.keep.length kc] ∧ DoAt W.heap.size W kd bA bc kA kc := by
  obtain ⟨cs, rfl, hsz⟩ := okWide_struct Try.underlying35 ok
  have k5 : Try.prog.cellsOf 35 = 5 := by kernel_rfl
  rw [k5] at hsz
  obtain ⟨n, ht⟩ := h
  obtain ⟨kd, q, hr, h1, h2, h3⟩ := row_do (r := cs.toList) (by simpa using hsz) ht
  obtain ⟨bA, bc, hbv, -⟩ := id h1
  obtain ⟨kA, kc, hkv, -⟩ := id h2
  rw [bytesV_length] at hbv
  rw [boolsV_length] at hkv
  refine ⟨kd, bA, bc, kA, kc, ?_, by rw [← hbv]; exact h1, by rw [← hkv]; exact h2, h3⟩
  have : cs = (doRow kd q).toArray := by rw [← hr]
  rw [this]
  unfold doRow sv
  rw [hbv, hkv]

set_option maxRecDepth 100000 in
set_option maxHeartbeats 4000000 in
theorem apart_walk (w : World) (room : Int) (v : Value) (ds : List Do) (h : Dos w.heap.size w v ds) (kd : Do) (bA kA : Option Addr) (bc kc : Nat) (hat : DoAt w.heap.size w kd bA bc kA kc) :
    Calls Try.prog 5 #[.int .i64 room, v, .agg #[.int .i64 kd.op, .string ⟨kd.name.toArray⟩, .slice bA kd.b.length bc, .int .i64 kd.n, .slice kA kd.keep.length kc]] w fun e w' => e = .returned (.bool true) ∧ Below w.heap.size w w' := by
  have hb0 := (Held.begin w).block 35 #[.int .i64 kd.op, .string ⟨kd.name.toArray⟩, .slice bA kd.b.length bc, .int .i64 kd.n, .slice kA kd.keep.length kc]
  have HM := hid (made_held hb0 room v ds h)
  have HK := hid hat
  have hu := u8_mod kd.op
  obtain ⟨o, ho⟩ : ∃ o, o = kd.op % 8 := ⟨_, rfl⟩
  have ho1 : 0 ≤ o ∧ o < 8 := by omega
  rw [← ho] at hu
  have HO8 := hid ho
  obtain ⟨o1, o2⟩ := ho1
  clear h hat hb0 ho
  go_enter Try.func5, Try.ntmps5
  go_wp2_with fail
  refine HM.out.mono ?_
  rintro e w1 ⟨n, p, ok, hn, rfl, hs, g⟩
  cases ok with
  | false =>
    have G := hid g
    clear g hs HM
    go_wp2_with fail
    refine (awake_any w1).mono ?_
    rintro e w2 ⟨rfl, hm⟩
    go_wp2_with fail
    go_ret
    exact ⟨rfl, (G.out.step hm).below⟩
  | true =>
    obtain ⟨hl, -⟩ := hs rfl
    have hok := diskOf_ok hn ds
    have hsm := (diskOf_small n ds).more hl
    simp only [if_true] at g
    generalize diskOf n ds = d at *
    have HO := hid (And.intro hok hsm)
    -- disk, k
    have hkb : Blk w1 w.heap.size 35 #[.int .i64 kd.op, .string ⟨kd.name.toArray⟩, .slice bA kd.b.length bc, .int .i64 kd.n, .slice kA kd.keep.length kc] := Held.blk (l1 := [_]) g
    have r0 : w1.cell? ⟨w.heap.size, 0, none⟩ = some (.int .i64 kd.op) := hkb.cell rfl
    have r1 : w1.cell? ⟨w.heap.size, 1, none⟩ = some (.string ⟨kd.name.toArray⟩) := hkb.cell rfl
    have r2 : w1.cell? ⟨w.heap.size, 2, none⟩ = some (.slice bA kd.b.length bc) := hkb.cell rfl
    have r3 : w1.cell? ⟨w.heap.size, 3, none⟩ = some (.int .i64 kd.n) := hkb.cell rfl
    have r4 : w1.cell? ⟨w.heap.size, 4, none⟩ = some (.slice kA kd.keep.length kc) := hkb.cell rfl
    have hat1 := HK.out.step g.mod
    have CS := hid (short_any _ _ _ [kd] (dos_one hat1 g.mod.size))
    have r0' : ∀ o, (w1.alloc o).cell? ⟨w.heap.size, 0, none⟩ = some (.int .i64 kd.op) := fun o => ((Mod.refl (fun _ => False) w1).alloc o).cell r0 (fun h => h)
    have G := hid (g.alloc (.cells #[.int .i64 kd.op, .string ⟨kd.name.toArray⟩, .slice bA kd.b.length bc, .int .i64 kd.n, .slice kA kd.keep.length kc] 35))
    clear g hok hsm hs HM hkb hat1
    go_wp2_with fail
    refine CS.out.mono ?_
    rintro e w2 ⟨r, rfl, hr, rfl⟩
    cases r with
    | false =>
      clear hr CS
      go_wp2_with fail
      refine (awake_any _).mono ?_
      rintro e w2 ⟨rfl, hm⟩
      go_wp2_with fail
      go_ret
      exact ⟨rfl, (G.out.step hm).below⟩
    | true =>
      have hbl : kd.b.length ≤ 32768 := (hr rfl).2 kd (by simp)
      have r0w := r0' (.cells #[.int .i64 kd.op, .string ⟨kd.name.toArray⟩, .slice bA kd.b.length bc, .int .i64 kd.n, .slice kA kd.keep.length kc] 35)
      clear hr CS r0 r1 r2 r3 r4 r0'
      generalize w1.alloc (.cells #[.int .i64 kd.op, .string ⟨kd.name.toArray⟩, .slice bA kd.b.length bc, .int .i64 kd.n, .slice kA kd.keep.length kc] 35) = w2 at *
      by_cases h7 : o = 7
      · have e7 : (o == 7) = true := by rw [h7]; rfl
        clear h7
        go_wp2_with fail
        refine (awake_any w2).mono ?_
        rintro e w3 ⟨rfl, hm⟩
        go_wp2_with fail
        go_ret
        exact ⟨rfl, (G.out.step hm).below⟩
      · have e7 : (o == 7) = false := by rw [beq_eq_false_iff_ne]; exact h7
        have C1 := hid (clone_disk G.out HO.out.1 (by have := HO.out.2.rest; omega))
        have H7 := hid h7
        clear h7
        go_wp2_with fail
        refine C1.out.mono ?_
        rintro e w3 ⟨q, rfl, g⟩
        -- clone, disk, k
        have hkb : Blk w3 w.heap.size 35 #[.int .i64 kd.op, .string ⟨kd.name.toArray⟩, .slice bA kd.b.length bc, .int .i64 kd.n, .slice kA kd.keep.length kc] := Held.blk (l1 := [_, _]) g
        have r0 : w3.cell? ⟨w.heap.size, 0, none⟩ = some (.int .i64 kd.op) := hkb.cell rfl
        have r1 : w3.cell? ⟨w.heap.size, 1, none⟩ = some (.string ⟨kd.name.toArray⟩) := hkb.cell rfl
        have r2 : w3.cell? ⟨w.heap.size, 2, none⟩ = some (.slice bA kd.b.length bc) := hkb.cell rfl
        have r3 : w3.cell? ⟨w.heap.size, 3, none⟩ = some (.int .i64 kd.n) := hkb.cell rfl
        have r4 : w3.cell? ⟨w.heap.size, 4, none⟩ = some (.slice kA kd.keep.length kc) := hkb.cell rfl
        have CC := hid (does_held g.pull1 HO.out.1 (by have := HO.out.2.rest; omega) kd HK.out.wf bA kA bc kc (src_old HK.out.b) (src_old HK.out.keep) (by omega))
        unfold sv at CC
        clear g C1 hkb r0w
        go_wp2_with fail
        refine CC.out.mono ?_
        rintro e w4 ⟨rfl, g⟩
        have hok2 := HO.out.1.call kd
        have hsm2 := HO.out.2.call kd
        have hap := hid (fun m (hm : m ≠ kd.name) => read_alike hok2 HO.out.1 (call_apart HO.out.1 kd (by show kd.op % 8 ≠ 7; rw [← HO8.out]; exact H7.out) hm))
        generalize (d.call kd).1 = d2 at *
        generalize (d.call kd).2 = ec at *
        -- disk d2, clone d, k
        have C6 := hid (list_held g.pull1 HO.out.1 (by have := HO.out.2.seen; omega))
        have H4 := hid (And.intro hok2 hsm2)
        clear g CC hok2 hsm2 r0 r1 r2 r3 r4
        go_wp2_with fail
        refine C6.out.mono ?_
        rintro e w7 ⟨u1, rfl, g⟩
        -- lc, clone d, disk d2, k
        have C7 := hid (list_held g.pull2 H4.out.1 (by have := H4.out.2.seen; omega))
        clear g C6
        go_wp2_with fail
        refine C7.out.mono ?_
        rintro e w8 ⟨u2, rfl, g⟩
        -- l2, disk d2, lc, clone d, k
        have hl3 : d.list.length ≤ 1000 := by rw [list_length]; have := HO.out.2.seen; omega
        have hl1 : d2.list.length ≤ 1000 := by rw [list_length]; have := H4.out.2.seen; omega
        have HT := hid (Held.texts g)
        have HG := hid (show Held w w8 ([] ++ rOwn 9 u1 (d.list.map sv) :: [rTexts u2 d2.list, rDisk p d2, rDisk q d, rBlk w.heap.size 35 #[.int .i64 kd.op, .string ⟨kd.name.toArray⟩, .slice bA kd.b.length bc, .int .i64 kd.n, .slice kA kd.keep.length kc]]) from g.pull2)
        obtain ⟨iS, jz, js, jb, jy⟩ := info_parts Try.infoStr
        have HI := hid (And.intro jz (And.intro js (And.intro jb jy)))
        clear g C7 jz js jb jy
        go_wp2_with (at_builtin; refine wpList_append_held (w0 := w) [] [rTexts u2 d2.list, rDisk p d2, rDisk q d, rBlk w.heap.size 35 #[.int .i64 kd.op, .string ⟨kd.name.toArray⟩, .slice bA kd.b.length bc, .int .i64 kd.n, .slice kA kd.keep.length kc]] rfl _ _ 43 rfl 9 iS (.string ⟨#[]⟩) 16 Try.underlying43 HI.out.1 HI.out.2.1 HI.out.2.2.1 HI.out.2.2.2 rfl u1 (d.list.map sv) rfl HG.out (fun _ => True) u2 (d2.list.map sv) rfl HT.out (sv_one _) (by rw [List.length_map, List.length_map]; omega) (by rw [List.length_map, List.length_map]; unfold maxLen; omega) ?c9)
        case c9 =>
          intro A' c' w9 p1 p2 g
          have HG2 := hid (show Held w w9 [rTexts (.slice A' (d.list.length + d2.list.length) c') (d.list ++ d2.list), rDisk p d2, rDisk q d, rBlk w.heap.size 35 #[.int .i64 kd.op, .string ⟨kd.name.toArray⟩, .slice bA kd.b.length bc, .int .i64 kd.n, .slice kA kd.keep.length kc]] from Held.drop0 (Held.pull1 (Held.texts_join g)))
          clear g
          have hnl : d.list.length + d2.list.length = (d.list ++ d2.list).length := by rw [List.length_append]
          have HNL := hid hnl
          obtain ⟨nl, hnl2⟩ : ∃ nl, nl = d.list.length + d2.list.length := ⟨_, rfl⟩
          rw [← hnl2] at HG2 p1 HNL hnl ⊢
          have hnb : nl ≤ 2000 := by omega
          clear hnl hnl2 hl3 hl1
          go_wp2_with fail
          go_loopw [50] (fun iv wr => ∃ k : Nat, k ≤ nl ∧ iv = .int .i64 k ∧ Held w wr [rTexts (.slice A' nl c') (d.list ++ d2.list), rDisk p d2, rDisk q d, rBlk w.heap.size 35 #[.int .i64 kd.op, .string ⟨kd.name.toArray⟩, .slice bA kd.b.length bc, .int .i64 kd.n, .slice kA kd.keep.length kc]]) (fun iv _ => nl - (intOf iv).toNat)
          case atStart => exact ⟨0, Nat.zero_le _, rfl, HG2.out⟩
          case round =>
            obtain ⟨j, hjl, rfl, hh⟩ := hrel
            clear HG2
            by_cases hjt : j < nl
            · have hjt' : j < (d.list ++ d2.list).length := by rw [← HNL.out]; exact hjt
              obtain ⟨b, off, rfl, hcell⟩ := text_at hh.texts hjt'
              have hmem := List.getElem_mem hjt'
              generalize (d.list ++ d2.list)[j] = m at *
              have hml2 : m.length ≤ 9223372036854775807 := by
                rcases List.mem_append.1 hmem with hm | hm
                · obtain ⟨x, hx⟩ := list_mem HO.out.1 hm
                  have := may_len (HO.out.1.seenLe _ _ hx).1
                  omega
                · obtain ⟨x, hx⟩ := list_mem H4.out.1 hm
                  have := may_len (H4.out.1.seenLe _ _ hx).1
                  omega
              have hap2 := hap.out m
              have R1 := hid (read_held hh.pull2 HO.out.1 m hml2)
              obtain ⟨x, hx⟩ : ∃ x, x = (d.read m).1 := ⟨_, rfl⟩
              obtain ⟨e3, he3⟩ : ∃ e3, e3 = (d.read m).2 := ⟨_, rfl⟩
              rw [← hx, ← he3] at R1
              obtain ⟨y, hy⟩ : ∃ y, y = (d2.read m).1 := ⟨_, rfl⟩
              obtain ⟨e1, he1⟩ : ∃ e1, e1 = (d2.read m).2 := ⟨_, rfl⟩
              have H6 := hid (And.intro hy (And.intro he1 hml2))
              have key : m ≠ kd.name → x = y ∧ e3 = e1 := by
                intro hm
                rw [hx, he3, hy, he1, hap2 hm]
                exact ⟨rfl, rfl⟩
              have H5 := hid key
              clear hh hap2 hx he3 hy he1 key hmem hml2
              unfold sv at hcell R1
              go_wp2_with fail
              refine R1.out.mono ?_
              rintro e wa ⟨va, rfl, g⟩
              -- x, clone d, names, disk d2, k
              have R2 := hid (read_held g.pull3 H4.out.1 m H6.out.2.2)
              rw [← H6.out.1, ← H6.out.2.1] at R2
              unfold sv at R2
              clear g R1
              go_wp2_with fail
              refine R2.out.mono ?_
              rintro e wb ⟨vb, rfl, g⟩
              -- y, disk d2, x, clone d, names, k
              have hra := Held.bytes (l1 := []) g.pull2
              have hrb := Held.bytes (l1 := []) g
              have q1 : wb.cell? ⟨w.heap.size, 1, none⟩ = some (.string ⟨kd.name.toArray⟩) := (Held.blk (l1 := [_, _, _, _, _]) g).cell rfl
              have G7 := hid (show Held w wb [rTexts (.slice (some ⟨b, off, none⟩) nl c') (d.list ++ d2.list), rDisk p d2, rDisk q d, rBlk w.heap.size 35 #[.int .i64 kd.op, .string ⟨kd.name.toArray⟩, .slice bA kd.b.length bc, .int .i64 kd.n, .slice kA kd.keep.length kc]] from (Held.drop0 (Held.pull1 (Held.drop0 g))).pull2)
              clear g R2
              cases hb : (m != kd.name) with
              | false =>
                have hb1 : (m == kd.name) = true := by simpa using hb
                clear hra hrb
                go_wp2_with fail
                exact ⟨⟨j + 1, by omega, by simp, G7.out⟩, by show nl - ((j : Int) + 1).toNat < nl - (j : Int).toNat; omega⟩
              | true =>
                obtain ⟨k1, k2⟩ := H5.out (by simpa using hb)
                have hb1 : (m == kd.name) = false := by simpa using hb
                have E := hid (bequal_any (fun _ => True) (fun _ => True) wb va vb x y hra hrb)
                have hxy : (x == y) = true := by rw [k1]; simp
                rw [hxy] at E
                subst k2
                clear hra hrb hxy k1
                go_wp2_with fail
                refine E.out.mono ?_
                rintro e wc ⟨rfl, rfl⟩
                clear E
                go_wp2_with fail
                exact ⟨⟨j + 1, by omega, by simp, G7.out⟩, by show nl - ((j : Int) + 1).toNat < nl - (j : Int).toNat; omega⟩
            · have HH := hid hh
              clear hh
              go_wp2_with fail
              refine (awake_any wr).mono ?_
              rintro e w8 ⟨rfl, hm⟩
              go_wp2_with fail
              go_ret
              exact ⟨rfl, (HH.out.step hm).below⟩
end Go.Proofs.Ytkednbkildkkmaa
