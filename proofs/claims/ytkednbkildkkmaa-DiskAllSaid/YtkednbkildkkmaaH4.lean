/- DiskNothing: the walk. -/
import Derived.Test.YtkednbkildkkmaaH3
namespace Go.Proofs.Ytkednbkildkkmaa
open Go.RowKit
open Disk

theorem Try.infoStr : (Try.prog.info? 9).map (fun i => (i.zero, i.size, i.bytes)) = some (some (.string ⟨#[]⟩), 1, 16) := by kernel_rfl
theorem sv_one (l : List Bytes) : ∀ x ∈ l.map sv, x.oneCell' = true := by
  intro x hx
  obtain ⟨n, -, rfl⟩ := List.mem_map.1 hx
  rfl
theorem Held.texts_join {w0 w : World} {B : List Res} {v : Value} {l m : List Bytes} (h : Held w0 w (rOwn 9 v (l.map sv ++ m.map sv) :: B)) : Held w0 w (rTexts v (l ++ m) :: B) := by
  unfold rTexts
  rw [List.map_append]
  exact h

/-- between the flush and the crash. -/
def NotAt (w0 : World) (p q : Nat) (d1 : Dk) (N : Nat) (w : World) : Prop := ∃ d, d.Ok ∧ d.Small N ∧ (∀ m, Dict.get d.lasting m = Dict.get d1.seen m) ∧ Held w0 w [rDisk p d, rDisk q d1]
theorem NotAt.next {w0 w' : World} {p q N : Nat} {d d1 : Dk} {k : Do} (hok : d.Ok) (hs : d.Small N) (hl : ∀ m, Dict.get d.lasting m = Dict.get d1.seen m) (h5 : k.op % 8 < 5) (hh : Held w0 w' [rDisk p (d.call k).1, rDisk q d1]) : NotAt w0 p q d1 (N + 1) w' :=
  ⟨_, hok.call k, hs.call k, fun m => by rw [call_lasting d k h5]; exact hl m, hh⟩
theorem NotAt.stay {w0 w : World} {p q N : Nat} {d d1 : Dk} (hok : d.Ok) (hs : d.Small N) (hl : ∀ m, Dict.get d.lasting m = Dict.get d1.seen m) (hh : Held w0 w [rDisk p d, rDisk q d1]) (o : Obj) : NotAt w0 p q d1 (N + 1) (w.alloc o) :=
  ⟨d, hok, hs.more (by omega), hl, hh.alloc o⟩

/-- what is read behind the crash. -/
theorem nothing_read {d d1 : Dk} (hok : d.Ok) (hok1 : d1.Ok) (hl : ∀ m, Dict.get d.lasting m = Dict.get d1.seen m) (name m : Bytes) :
    (m = name ∧ (d.sync name).2 = 0 → (((d.sync name).1).crash [] 0).read m = ((d.sync name).1).read m ∧ (((d.sync name).1).read m).2 = 0) ∧
    (¬ (m = name ∧ (d.sync name).2 = 0) → (((d.sync name).1).crash [] 0).read m = d1.read m) := by
  have hg := nothing_left (d0 := d1) hok hl name m
  have ok2 := hok.sync name
  have ok3 := ok2.crash [] 0
  refine ⟨fun h => ?_, fun h => ?_⟩
  · rw [if_pos h] at hg
    refine ⟨read_alike ok3 ok2 hg, ?_⟩
    obtain ⟨rfl, h0⟩ := h
    rw [sync_err] at h0
    obtain ⟨x, hx⟩ := (look_ok hok).1 h0
    rw [ok2.read_of, sync_seen, hx]
  · rw [if_neg h] at hg
    exact read_alike ok3 hok1 hg

set_option maxRecDepth 100000 in
set_option maxHeartbeats 4000000 in
theorem nothing_walk (w : World) (room : Int) (v : Value) (ds : List Do) (h : Dos w.heap.size w v ds) (mv : Value) (ms : List Do) (hms : Dos w.heap.size w mv ms) (name : Bytes) (hnm : name.length ≤ 9223372036854775807) :
    Calls Try.prog 4 #[.int .i64 room, v, mv, sv name] w fun e w' => e = .returned (.bool true) ∧ Below w.heap.size w w' := by
  obtain ⟨mA, mc, rfl, m1, m2⟩ := hms.form
  have HM := hid (made_held (Held.begin w) room v ds h)
  have HK := hid (And.intro hms hnm)
  clear h hms hnm
  unfold sv
  go_enter Try.func4, Try.ntmps4
  go_wp2_with fail
  refine HM.out.mono ?_
  rintro e w1 ⟨n, p, ok, hn, rfl, hs, g⟩
  cases ok with
  | false =>
    have G := hid g
    clear g hs HM
    go_wp2_with fail
    refine (awake_any w1).mono ?_
    rintro e w2 ⟨rfl, hm⟩
    go_wp2_with fail
    go_ret
    exact ⟨rfl, (G.out.step hm).below⟩
  | true =>
    obtain ⟨hl, -⟩ := hs rfl
    have hok := diskOf_ok hn ds
    have hpl := diskOf_pend n ds
    have hsm := diskOf_small n ds
    simp only [if_true] at g
    generalize diskOf n ds = d0 at *
    have CS := hid (short_any w.heap.size w1 _ ms (g.dos HK.out.1))
    have G := hid g
    have HO := hid (And.intro hok (And.intro hpl (And.intro hl (hsm.more hl))))
    clear g hok hpl hs HM hl hsm
    go_wp2_with fail
    refine CS.out.mono ?_
    rintro e w2 ⟨r, rfl, hr, rfl⟩
    cases r with
    | false =>
      clear hr CS
      go_wp2_with fail
      refine (awake_any w1).mono ?_
      rintro e w2 ⟨rfl, hm⟩
      go_wp2_with fail
      go_ret
      exact ⟨rfl, (G.out.step hm).below⟩
    | true =>
      obtain ⟨hml, hmb⟩ := hr rfl
      have HB := hid hmb
      have C1 := hid (flush_held G.out HO.out.1 (by have := HO.out.2.1; have := HO.out.2.2.1; omega))
      clear hr hmb CS
      go_wp2_with fail
      refine C1.out.mono ?_
      rintro e w2 ⟨rfl, g⟩
      have hok1 := HO.out.1.flush
      have hp1 := flush_pend d0
      have hs1 := HO.out.2.2.2.flush
      have hl1 : ∀ m, Dict.get d0.flush.lasting m = Dict.get d0.flush.seen m := fun _ => rfl
      generalize d0.flush = d1 at *
      have C2 := hid (clone_disk g hok1 (by rw [hp1]; simp))
      have H1 := hid (And.intro hok1 (And.intro hs1 hl1))
      clear g hok1 hp1 hs1 hl1 C1 HO G
      go_wp2_with fail
      refine C2.out.mono ?_
      rintro e w3 ⟨q, rfl, g⟩
      have HA0 := hid (show NotAt w p q d1 120 w3 from ⟨d1, H1.out.1, H1.out.2.1, H1.out.2.2, g.pull1⟩)
      clear g C2
      go_wp2_with fail
      go_loopw [47] (fun iv wr => ∃ k : Nat, k ≤ ms.length ∧ iv = .int .i64 k ∧ NotAt w p q d1 (120 + k) wr) (fun iv _ => ms.length - (intOf iv).toNat)
      case atStart => exact ⟨0, Nat.zero_le _, rfl, HA0.out⟩
      case round =>
        obtain ⟨k, hkl, rfl, hA⟩ := hrel
        clear HA0
        by_cases hlt : k < ms.length
        · obtain ⟨d, hok, hsm, hla, hh⟩ := hA
          obtain ⟨b, off, bA, bc, kA, kc, rfl, -, c0, c1, c2, c3, c4, hat⟩ := (hh.dos HK.out.1).at hlt
          have hbl := HB.out ms[k] (List.getElem_mem hlt)
          have hob := u8_mod ms[k].op
          have ho1 : 0 ≤ ms[k].op % 8 ∧ ms[k].op % 8 < 8 := by omega
          obtain ⟨kd, hkd⟩ : ∃ kd, kd = ms[k] := ⟨_, rfl⟩
          rw [← hkd] at c0 c1 c2 c3 c4 hat hbl hob ho1
          clear hkd
          obtain ⟨hsb, hsk⟩ := hat.old hh [rBlk wr.heap.size 35 #[.int .i64 kd.op, sv kd.name, .slice bA kd.b.length bc, .int .i64 kd.n, .slice kA kd.keep.length kc], rDisk q d1]
          have hg0 := (hh.block 35 #[.int .i64 kd.op, sv kd.name, .slice bA kd.b.length bc, .int .i64 kd.n, .slice kA kd.keep.length kc]).pull1
          have CC := hid (does_held hg0 hok (by have := hsm.rest; omega) kd hat.wf bA kA bc kc hsb hsk (by omega))
          have HN := hid (fun (w' : World) h5 hh' => NotAt.next (w0 := w) (w' := w') (p := p) (q := q) (k := kd) hok hsm hla h5 hh')
          have HT := hid (NotAt.stay hok hsm hla hh (.cells #[.int .i64 kd.op, sv kd.name, .slice bA kd.b.length bc, .int .i64 kd.n, .slice kA kd.keep.length kc] 35))
          obtain ⟨o, ho⟩ : ∃ o, o = kd.op % 8 := ⟨_, rfl⟩
          rw [← ho] at hob ho1 HN
          obtain ⟨o1, o2⟩ := ho1
          clear hh hat hbl hsb hsk hg0 hok hsm hla ho
          unfold sv at c1 CC HT
          have hm1 : 120 + k + 1 = 120 + (k + 1) := by omega
          rw [hm1] at HT HN
          clear hm1
          by_cases h5 : 5 ≤ o
          · clear CC
            clear HN
            go_wp2_with fail
            exact ⟨⟨k + 1, by omega, by simp, HT.out⟩, by show ms.length - ((k : Int) + 1).toNat < ms.length - (k : Int).toNat; omega⟩
          · have h5' : o < 5 := by omega
            clear HT
            go_wp2_with fail
            refine CC.out.mono ?_
            rintro e w4 ⟨rfl, g4⟩
            have G4 := hid (HN.out w4 h5' (Held.drop0 (Held.pull1 g4)))
            clear g4
            go_wp2_with fail
            exact ⟨⟨k + 1, by omega, by simp, G4.out⟩, by show ms.length - ((k : Int) + 1).toNat < ms.length - (k : Int).toNat; omega⟩
        · obtain ⟨d, hok, hsm, hla, hh⟩ := hA
          have C3 := hid (sync_held hh hok (by have := hsm.rest; omega) name HK.out.2)
          unfold sv at C3
          have HD := hid (And.intro hok (And.intro hsm hla))
          have HNR := hid (fun m => nothing_read hok H1.out.1 hla name m)
          obtain ⟨er, her⟩ : ∃ er, er = (d.sync name).2 := ⟨_, rfl⟩
          rw [← her] at C3 HNR
          have hok2 := hok.sync name
          have hsm2 := hsm.sync name
          generalize (d.sync name).1 = d2 at *
          have H2 := hid (And.intro hok2 hsm2)
          clear hh hok hsm hla her hok2 hsm2 HD
          have hers : er = 0 ∨ er ≠ 0 := by omega
          rcases hers with he0 | he0
          · have he1 : (er == 0) = true := by rw [he0]; rfl
            have HE := hid he0
            clear he0
            go_wp2_with fail
            refine C3.out.mono ?_
            rintro e w4 ⟨rfl, g⟩
            have C4 := hid (read_held g H2.out.1 name HK.out.2)
            unfold sv at C4
            obtain ⟨now, hnow⟩ : ∃ now, now = (d2.read name).1 := ⟨_, rfl⟩
            obtain ⟨en, hen⟩ : ∃ en, en = (d2.read name).2 := ⟨_, rfl⟩
            rw [← hnow, ← hen] at C4
            have H3 := hid (And.intro hnow hen)
            clear g C3 hnow hen
            go_wp2_with fail
            refine C4.out.mono ?_
            rintro e w5 ⟨v1, rfl, g⟩
            -- now, disk d2, disk d1
            have C5 := hid (crash_held g.pull1 H2.out.1 (by have := H2.out.2.rest; omega) [] none 0 (fun _ _ _ => Rd.nil _ _) 0)
            simp only [List.length_nil] at C5
            clear g C4
            go_wp2_with fail
            refine C5.out.mono ?_
            rintro e w6 ⟨rfl, g⟩
            have hok3 := H2.out.1.crash [] 0
            have hsm3 := H2.out.2.crash [] 0
            generalize d2.crash [] 0 = d3 at *
            -- disk d3, now, disk d1
            have C6 := hid (list_held g hok3 (by have := hsm3.seen; omega))
            have H4 := hid (And.intro hok3 hsm3)
            clear g C5 hok3 hsm3
            go_wp2_with fail
            refine C6.out.mono ?_
            rintro e w7 ⟨u1, rfl, g⟩
            -- l3, disk d3, now, disk d1
            have C7 := hid (list_held g.pull3 H1.out.1 (by have := H1.out.2.1.seen; omega))
            clear g C6
            go_wp2_with fail
            refine C7.out.mono ?_
            rintro e w8 ⟨u2, rfl, g⟩
            -- l1, disk d1, l3, disk d3, now
            have hl3 : d3.list.length ≤ 1000 := by rw [list_length]; have := H4.out.2.seen; omega
            have hl1 : d1.list.length ≤ 1000 := by rw [list_length]; have := H1.out.2.1.seen; omega
            have HT := hid (Held.texts g)
            have HG := hid (show Held w w8 ([] ++ rOwn 9 u1 (d3.list.map sv) :: [rTexts u2 d1.list, rDisk q d1, rDisk p d3, rBytes v1 now]) from g.pull2)
            obtain ⟨iS, jz, js, jb, jy⟩ := info_parts Try.infoStr
            have HI := hid (And.intro jz (And.intro js (And.intro jb jy)))
            clear g C7 jz js jb jy
            go_wp2_with (at_builtin; refine wpList_append_held (w0 := w) [] [rTexts u2 d1.list, rDisk q d1, rDisk p d3, rBytes v1 now] rfl _ _ 43 rfl 9 iS (.string ⟨#[]⟩) 16 Try.underlying43 HI.out.1 HI.out.2.1 HI.out.2.2.1 HI.out.2.2.2 rfl (u1) (d3.list.map sv) rfl HG.out (fun _ => True) (u2) (d1.list.map sv) rfl HT.out (sv_one _) (by rw [List.length_map, List.length_map]; omega) (by rw [List.length_map, List.length_map]; unfold maxLen; omega) ?c9)
            case c9 =>
              intro A' c' w9 p1 p2 g
              have HG2 := hid (show Held w w9 [rTexts (.slice A' (d3.list.length + d1.list.length) c') (d3.list ++ d1.list), rDisk p d3, rDisk q d1, rBytes v1 now] from by
                exact (Held.drop0 (Held.pull1 (Held.texts_join g))).perm (.cons _ (.swap _ _ _)))
              clear g
              have hnl : d3.list.length + d1.list.length = (d3.list ++ d1.list).length := by rw [List.length_append]
              have HNL := hid hnl
              obtain ⟨nl, hnl2⟩ : ∃ nl, nl = d3.list.length + d1.list.length := ⟨_, rfl⟩
              rw [← hnl2] at HG2 p1 HNL hnl ⊢
              have hnb : nl ≤ 2000 := by omega
              clear hnl hnl2 hl3 hl1
              go_wp2_with fail
              go_loopw [81] (fun iv wr => ∃ k : Nat, k ≤ nl ∧ iv = .int .i64 k ∧ Held w wr [rTexts (.slice A' nl c') (d3.list ++ d1.list), rDisk p d3, rDisk q d1, rBytes v1 now]) (fun iv _ => nl - (intOf iv).toNat)
              case atStart => exact ⟨0, Nat.zero_le _, rfl, HG2.out⟩
              case round =>
                obtain ⟨j, hjl, rfl, hh⟩ := hrel
                clear HG2
                by_cases hjt : j < nl
                · have hjt' : j < (d3.list ++ d1.list).length := by rw [← HNL.out]; exact hjt
                  obtain ⟨b, off, rfl, hcell⟩ := text_at hh.texts hjt'
                  have hmem := List.getElem_mem hjt'
                  generalize (d3.list ++ d1.list)[j] = m at *
                  have hml2 : m.length ≤ 9223372036854775807 := by
                    rcases List.mem_append.1 hmem with hm | hm
                    · obtain ⟨x, hx⟩ := list_mem H4.out.1 hm
                      have := may_len (H4.out.1.seenLe _ _ hx).1
                      omega
                    · obtain ⟨x, hx⟩ := list_mem H1.out.1 hm
                      have := may_len (H1.out.1.seenLe _ _ hx).1
                      omega
                  have hnr := HNR.out m
                  have R1 := hid (read_held hh.pull1 H4.out.1 m hml2)
                  obtain ⟨x, hx⟩ : ∃ x, x = (d3.read m).1 := ⟨_, rfl⟩
                  obtain ⟨e3, he3⟩ : ∃ e3, e3 = (d3.read m).2 := ⟨_, rfl⟩
                  rw [← hx, ← he3] at R1
                  obtain ⟨y, hy⟩ : ∃ y, y = (d1.read m).1 := ⟨_, rfl⟩
                  obtain ⟨e1, he1'⟩ : ∃ e1, e1 = (d1.read m).2 := ⟨_, rfl⟩
                  have H6 := hid (And.intro hy (And.intro he1' hml2))
                  have key : (m = name ∧ er = 0 → x = now ∧ e3 = 0) ∧ (¬ (m = name ∧ er = 0) → x = y ∧ e3 = e1) := by
                    refine ⟨fun hmn => ?_, fun hmn => ?_⟩
                    · obtain ⟨k1, k2⟩ := hnr.1 hmn
                      rw [hx, he3, k1]
                      rw [hmn.1] at k2 ⊢
                      exact ⟨H3.out.1.symm, k2⟩
                    · rw [hx, he3, hnr.2 hmn]
                      exact ⟨hy.symm, he1'.symm⟩
                  have H5 := hid key
                  clear hh hnr hx he3 hy he1' key hmem hml2
                  unfold sv at hcell R1
                  go_wp2_with fail
                  refine R1.out.mono ?_
                  rintro e wa ⟨va, rfl, g⟩
                  -- x, disk d3, names, disk d1, now
                  have R2 := hid (read_held g.pull3 H1.out.1 m H6.out.2.2)
                  rw [← H6.out.1, ← H6.out.2.1] at R2
                  unfold sv at R2
                  clear g R1
                  go_wp2_with fail
                  refine R2.out.mono ?_
                  rintro e wb ⟨vb, rfl, g⟩
                  -- y, disk d1, x, disk d3, names, now
                  have hra := Held.bytes (l1 := []) g.pull2
                  have hrb := Held.bytes (l1 := []) g
                  have hrn := Held.bytes (l1 := []) g.pull5
                  have G7 := hid (show Held w wb [rTexts (.slice (some ⟨b, off, none⟩) nl c') (d3.list ++ d1.list), rDisk p d3, rDisk q d1, rBytes v1 now] from (Held.drop0 (Held.pull1 (Held.drop0 g))).pull1.pull2)
                  clear g R2
                  by_cases hmn : m = name ∧ er = 0
                  · obtain ⟨k1, k2⟩ := H5.out.1 hmn
                    have hmb : (m == name) = true := by rw [hmn.1]; simp
                    have E := hid (bequal_any (fun _ => True) (fun _ => True) wb va v1 x now hra hrn)
                    have hxn : (x == now) = true := by rw [k1]; simp
                    rw [hxn] at E
                    subst k2
                    clear hra hrb hrn hmn hxn k1
                    go_wp2_with fail
                    refine E.out.mono ?_
                    rintro e wc ⟨rfl, rfl⟩
                    clear E
                    go_wp2_with fail
                    exact ⟨⟨j + 1, by omega, by simp, G7.out⟩, by show nl - ((j : Int) + 1).toNat < nl - (j : Int).toNat; omega⟩
                  · obtain ⟨k1, k2⟩ := H5.out.2 hmn
                    have E := hid (bequal_any (fun _ => True) (fun _ => True) wb va vb x y hra hrb)
                    have hxy : (x == y) = true := by rw [k1]; simp
                    rw [hxy] at E
                    subst k2
                    clear hra hrb hrn hxy k1
                    have hmb : (m == name) = false := by
                      rw [beq_eq_false_iff_ne]
                      exact fun h => hmn ⟨h, HE.out⟩
                    clear hmn
                    go_wp2_with fail
                    refine E.out.mono ?_
                    rintro e wc ⟨rfl, rfl⟩
                    clear E
                    go_wp2_with fail
                    exact ⟨⟨j + 1, by omega, by simp, G7.out⟩, by show nl - ((j : Int) + 1).toNat < nl - (j : Int).toNat; omega⟩
                · have HH := hid hh
                  clear hh
                  go_wp2_with fail
                  refine (awake_any wr).mono ?_
                  rintro e w8 ⟨rfl, hm⟩
                  go_wp2_with fail
                  go_ret
                  exact ⟨rfl, (HH.out.step hm).below⟩
          · have he1 : (er == 0) = false := by simpa using he0
            have HE := hid he0
            clear he0
            go_wp2_with fail
            refine C3.out.mono ?_
            rintro e w4 ⟨rfl, g⟩
            have C4 := hid (read_held g H2.out.1 name HK.out.2)
            unfold sv at C4
            obtain ⟨now, hnow⟩ : ∃ now, now = (d2.read name).1 := ⟨_, rfl⟩
            obtain ⟨en, hen⟩ : ∃ en, en = (d2.read name).2 := ⟨_, rfl⟩
            rw [← hnow, ← hen] at C4
            have H3 := hid (And.intro hnow hen)
            clear g C3 hnow hen
            go_wp2_with fail
            refine C4.out.mono ?_
            rintro e w5 ⟨v1, rfl, g⟩
            -- now, disk d2, disk d1
            have C5 := hid (crash_held g.pull1 H2.out.1 (by have := H2.out.2.rest; omega) [] none 0 (fun _ _ _ => Rd.nil _ _) 0)
            simp only [List.length_nil] at C5
            clear g C4
            go_wp2_with fail
            refine C5.out.mono ?_
            rintro e w6 ⟨rfl, g⟩
            have hok3 := H2.out.1.crash [] 0
            have hsm3 := H2.out.2.crash [] 0
            generalize d2.crash [] 0 = d3 at *
            -- disk d3, now, disk d1
            have C6 := hid (list_held g hok3 (by have := hsm3.seen; omega))
            have H4 := hid (And.intro hok3 hsm3)
            clear g C5 hok3 hsm3
            go_wp2_with fail
            refine C6.out.mono ?_
            rintro e w7 ⟨u1, rfl, g⟩
            -- l3, disk d3, now, disk d1
            have C7 := hid (list_held g.pull3 H1.out.1 (by have := H1.out.2.1.seen; omega))
            clear g C6
            go_wp2_with fail
            refine C7.out.mono ?_
            rintro e w8 ⟨u2, rfl, g⟩
            -- l1, disk d1, l3, disk d3, now
            have hl3 : d3.list.length ≤ 1000 := by rw [list_length]; have := H4.out.2.seen; omega
            have hl1 : d1.list.length ≤ 1000 := by rw [list_length]; have := H1.out.2.1.seen; omega
            have HT := hid (Held.texts g)
            have HG := hid (show Held w w8 ([] ++ rOwn 9 u1 (d3.list.map sv) :: [rTexts u2 d1.list, rDisk q d1, rDisk p d3, rBytes v1 now]) from g.pull2)
            obtain ⟨iS, jz, js, jb, jy⟩ := info_parts Try.infoStr
            have HI := hid (And.intro jz (And.intro js (And.intro jb jy)))
            clear g C7 jz js jb jy
            go_wp2_with (at_builtin; refine wpList_append_held (w0 := w) [] [rTexts u2 d1.list, rDisk q d1, rDisk p d3, rBytes v1 now] rfl _ _ 43 rfl 9 iS (.string ⟨#[]⟩) 16 Try.underlying43 HI.out.1 HI.out.2.1 HI.out.2.2.1 HI.out.2.2.2 rfl (u1) (d3.list.map sv) rfl HG.out (fun _ => True) (u2) (d1.list.map sv) rfl HT.out (sv_one _) (by rw [List.length_map, List.length_map]; omega) (by rw [List.length_map, List.length_map]; unfold maxLen; omega) ?c9)
            case c9 =>
              intro A' c' w9 p1 p2 g
              have HG2 := hid (show Held w w9 [rTexts (.slice A' (d3.list.length + d1.list.length) c') (d3.list ++ d1.list), rDisk p d3, rDisk q d1, rBytes v1 now] from by
                exact (Held.drop0 (Held.pull1 (Held.texts_join g))).perm (.cons _ (.swap _ _ _)))
              clear g
              have hnl : d3.list.length + d1.list.length = (d3.list ++ d1.list).length := by rw [List.length_append]
              have HNL := hid hnl
              obtain ⟨nl, hnl2⟩ : ∃ nl, nl = d3.list.length + d1.list.length := ⟨_, rfl⟩
              rw [← hnl2] at HG2 p1 HNL hnl ⊢
              have hnb : nl ≤ 2000 := by omega
              clear hnl hnl2 hl3 hl1
              go_wp2_with fail
              go_loopw [81] (fun iv wr => ∃ k : Nat, k ≤ nl ∧ iv = .int .i64 k ∧ Held w wr [rTexts (.slice A' nl c') (d3.list ++ d1.list), rDisk p d3, rDisk q d1, rBytes v1 now]) (fun iv _ => nl - (intOf iv).toNat)
              case atStart => exact ⟨0, Nat.zero_le _, rfl, HG2.out⟩
              case round =>
                obtain ⟨j, hjl, rfl, hh⟩ := hrel
                clear HG2
                by_cases hjt : j < nl
                · have hjt' : j < (d3.list ++ d1.list).length := by rw [← HNL.out]; exact hjt
                  obtain ⟨b, off, rfl, hcell⟩ := text_at hh.texts hjt'
                  have hmem := List.getElem_mem hjt'
                  generalize (d3.list ++ d1.list)[j] = m at *
                  have hml2 : m.length ≤ 9223372036854775807 := by
                    rcases List.mem_append.1 hmem with hm | hm
                    · obtain ⟨x, hx⟩ := list_mem H4.out.1 hm
                      have := may_len (H4.out.1.seenLe _ _ hx).1
                      omega
                    · obtain ⟨x, hx⟩ := list_mem H1.out.1 hm
                      have := may_len (H1.out.1.seenLe _ _ hx).1
                      omega
                  have hnr := HNR.out m
                  have R1 := hid (read_held hh.pull1 H4.out.1 m hml2)
                  obtain ⟨x, hx⟩ : ∃ x, x = (d3.read m).1 := ⟨_, rfl⟩
                  obtain ⟨e3, he3⟩ : ∃ e3, e3 = (d3.read m).2 := ⟨_, rfl⟩
                  rw [← hx, ← he3] at R1
                  obtain ⟨y, hy⟩ : ∃ y, y = (d1.read m).1 := ⟨_, rfl⟩
                  obtain ⟨e1, he1'⟩ : ∃ e1, e1 = (d1.read m).2 := ⟨_, rfl⟩
                  have H6 := hid (And.intro hy (And.intro he1' hml2))
                  have key : (m = name ∧ er = 0 → x = now ∧ e3 = 0) ∧ (¬ (m = name ∧ er = 0) → x = y ∧ e3 = e1) := by
                    refine ⟨fun hmn => ?_, fun hmn => ?_⟩
                    · obtain ⟨k1, k2⟩ := hnr.1 hmn
                      rw [hx, he3, k1]
                      rw [hmn.1] at k2 ⊢
                      exact ⟨H3.out.1.symm, k2⟩
                    · rw [hx, he3, hnr.2 hmn]
                      exact ⟨hy.symm, he1'.symm⟩
                  have H5 := hid key
                  clear hh hnr hx he3 hy he1' key hmem hml2
                  unfold sv at hcell R1
                  go_wp2_with fail
                  refine R1.out.mono ?_
                  rintro e wa ⟨va, rfl, g⟩
                  -- x, disk d3, names, disk d1, now
                  have R2 := hid (read_held g.pull3 H1.out.1 m H6.out.2.2)
                  rw [← H6.out.1, ← H6.out.2.1] at R2
                  unfold sv at R2
                  clear g R1
                  go_wp2_with fail
                  refine R2.out.mono ?_
                  rintro e wb ⟨vb, rfl, g⟩
                  -- y, disk d1, x, disk d3, names, now
                  have hra := Held.bytes (l1 := []) g.pull2
                  have hrb := Held.bytes (l1 := []) g
                  have hrn := Held.bytes (l1 := []) g.pull5
                  have G7 := hid (show Held w wb [rTexts (.slice (some ⟨b, off, none⟩) nl c') (d3.list ++ d1.list), rDisk p d3, rDisk q d1, rBytes v1 now] from (Held.drop0 (Held.pull1 (Held.drop0 g))).pull1.pull2)
                  clear g R2
                  by_cases hmn : m = name ∧ er = 0
                  · exact absurd hmn.2 HE.out
                  · obtain ⟨k1, k2⟩ := H5.out.2 hmn
                    have E := hid (bequal_any (fun _ => True) (fun _ => True) wb va vb x y hra hrb)
                    have hxy : (x == y) = true := by rw [k1]; simp
                    rw [hxy] at E
                    subst k2
                    clear hra hrb hrn hxy k1
                    clear hmn
                    cases hmb : (m == name)
                    all_goals
                      go_wp2_with fail
                      refine E.out.mono ?_
                      rintro e wc ⟨rfl, rfl⟩
                      clear E
                      go_wp2_with fail
                      exact ⟨⟨j + 1, by omega, by simp, G7.out⟩, by show nl - ((j : Int) + 1).toNat < nl - (j : Int).toNat; omega⟩
                · have HH := hid hh
                  clear hh
                  go_wp2_with fail
                  refine (awake_any wr).mono ?_
                  rintro e w8 ⟨rfl, hm⟩
                  go_wp2_with fail
                  go_ret
                  exact ⟨rfl, (HH.out.step hm).below⟩
end Go.Proofs.Ytkednbkildkkmaa
