/- DiskBegins: the walk. -/
import Derived.Test.YtkednbkildkkmaaH1
namespace Go.Proofs.Ytkednbkildkkmaa
open Go.RowKit
open Disk

set_option maxRecDepth 100000 in
theorem prefix_any (S T : Nat → Prop) (w : World) (v u : Value) (l m : Bytes) (hv : Rd S w v (bytesV l)) (hu : Rd T w u (bytesV m)) (hp : m <+: l) :
    Calls Try.prog 19 #[v, u] w fun e w' => e = .returned (.bool true) ∧ w = w' := by
  obtain ⟨A, c, rfl, a1, a2, -⟩ := id hv
  obtain ⟨C, cu, rfl, u1, u2, -⟩ := id hu
  rw [bytesV_length] at a1 u1 hv hu ⊢
  rw [bytesV_length]
  unfold maxLen at a2 u2
  have hle := hp.length_le
  have hv' := hv.take hle
  have ht : l.take m.length = m := (List.prefix_iff_eq_take.1 hp).symm
  have ht2 : (bytesV l).take m.length = bytesV m := by rw [← ht]; unfold bytesV; rw [List.map_take, ht]
  rw [ht2] at hv'
  have E := hid (bequal_any S T w (.slice A m.length c) (.slice C m.length cu) m m hv' hu)
  have hmm : (m == m) = true := by simp
  rw [hmm] at E
  clear hv hu hv' ht ht2 hmm hp
  go_enter Try.func19, Try.ntmps19
  go_wp2_with fail
  refine E.out.mono ?_
  rintro e w' ⟨rfl, rfl⟩
  go_wp2_with fail
  go_ret
  exact ⟨rfl, rfl⟩

/-- between the sync and the crash. -/
def BegAt (w0 : World) (p : Nat) (name was : Bytes) (v1 : Value) (N : Nat) (w : World) : Prop := ∃ d s, BeginAt name was d s ∧ d.pending.length ≤ N ∧ Held w0 w [rBytes v1 was, rDisk p d]
theorem BegAt.next {w0 w w' : World} {p N : Nat} {name was s : Bytes} {v1 : Value} {d : Dk} {k : Do} (h : BeginAt name was d s) (hp : d.pending.length ≤ N) (h5 : k.op % 8 < 5) (hn : k.name = name → k.op % 8 ≠ 3 ∧ k.op % 8 ≠ 4)
    (hh : Held w0 w' [rDisk p (d.call k).1, rBytes v1 was]) : BegAt w0 p name was v1 (N + 1) w' := by
  obtain ⟨t, ht⟩ := h.call k h5 hn
  have := call_pend d k
  exact ⟨_, t, ht, by omega, hh.pull1⟩
theorem BegAt.stay {w0 w : World} {p N : Nat} {name was s : Bytes} {v1 : Value} {d : Dk} (h : BeginAt name was d s) (hp : d.pending.length ≤ N) (hh : Held w0 w [rBytes v1 was, rDisk p d]) (o : Obj) : BegAt w0 p name was v1 (N + 1) (w.alloc o) :=
  ⟨d, s, h, by omega, hh.alloc o⟩
theorem byte_at {S : Nat → Prop} {w : World} {A : Option Addr} {n c : Nat} {l : Bytes} (h : Rd S w (.slice A n c) (bytesV l)) {k : Nat} (hk : k < l.length) : ∃ b off, A = some ⟨b, off, none⟩ ∧ w.cell? ⟨b, off + k, none⟩ = some (.int .u8 (l[k].toNat : Nat)) := by
  obtain ⟨A', c', hv, -, -, hA⟩ := h
  injection hv with e1 _ _
  subst e1
  have hg : (bytesV l)[k]? = some (.int .u8 (l[k].toNat : Nat)) := by unfold bytesV; rw [List.getElem?_map, List.getElem?_eq_getElem hk]; rfl
  obtain ⟨b, off, ha, -, hc⟩ := hA (by intro e; rw [e] at hg; simp at hg)
  exact ⟨b, off, ha, hc k _ hg⟩

set_option maxRecDepth 100000 in
set_option maxHeartbeats 4000000 in
theorem begins_walk (w : World) (room : Int) (v : Value) (ds : List Do) (h : Dos w.heap.size w v ds) (name : Bytes) (hnm : name.length ≤ 9223372036854775807) (mv : Value) (ms : List Do) (hms : Dos w.heap.size w mv ms)
    (kv : Value) (ks : List Bool) (hk : Rd (· < w.heap.size) w kv (boolsV ks)) (tear : Int) :
    Calls Try.prog 3 #[.int .i64 room, v, sv name, mv, kv, .int .i64 tear] w fun e w' => e = .returned (.bool true) ∧ Below w.heap.size w w' := by
  obtain ⟨qA, qc, rfl⟩ := bools_form hk
  obtain ⟨mA, mc, rfl, m1, m2⟩ := hms.form
  have HM := hid (made_held (Held.begin w) room v ds h)
  have HK := hid (And.intro hk (And.intro hms hnm))
  clear h hk hms hnm
  unfold sv
  go_enter Try.func3, Try.ntmps3
  go_wp2_with fail
  refine HM.out.mono ?_
  rintro e w1 ⟨n, p, ok, hn, rfl, hs, g⟩
  cases ok with
  | false =>
    have G := hid g
    clear g hs HM
    go_wp2_with fail
    refine (awake_any w1).mono ?_
    rintro e w2 ⟨rfl, hm⟩
    go_wp2_with fail
    go_ret
    exact ⟨rfl, (G.out.step hm).below⟩
  | true =>
    obtain ⟨hl, -⟩ := hs rfl
    have hok := diskOf_ok hn ds
    have hpl := diskOf_pend n ds
    simp only [if_true] at g
    generalize diskOf n ds = d0 at *
    have CS := hid (short_any w.heap.size w1 _ ms (g.dos HK.out.2.1))
    have G := hid g
    have HO := hid (And.intro hok (And.intro hpl hl))
    clear g hok hpl hs HM hl
    go_wp2_with fail
    refine CS.out.mono ?_
    rintro e w2 ⟨r, rfl, hr, rfl⟩
    cases r with
    | false =>
      clear hr CS
      go_wp2_with fail
      refine (awake_any w1).mono ?_
      rintro e w2 ⟨rfl, hm⟩
      go_wp2_with fail
      go_ret
      exact ⟨rfl, (G.out.step hm).below⟩
    | true =>
      obtain ⟨hml, hmb⟩ := hr rfl
      have HB := hid hmb
      have C1 := hid (sync_held G.out HO.out.1 (by have := HO.out.2.1; have := HO.out.2.2; omega) name HK.out.2.2)
      unfold sv at C1
      obtain ⟨er, her⟩ : ∃ er, er = (d0.sync name).2 := ⟨_, rfl⟩
      rw [← her] at C1
      have HE := hid her
      clear hr hmb CS her
      go_wp2_with fail
      refine C1.out.mono ?_
      rintro e w2 ⟨rfl, g⟩
      by_cases he0 : er = 0
      · have h0 := HE.out
        rw [he0] at h0
        obtain ⟨was, hread, hbeg⟩ := begin_at HO.out.1 h0.symm
        have hpl1 : (d0.sync name).1.pending.length ≤ 121 := by have := sync_pend d0 name; have := HO.out.2.1; have := HO.out.2.2; omega
        have C2 := hid (read_held g hbeg.ok name HK.out.2.2)
        rw [hread] at C2
        unfold sv at C2
        have HG := hid (And.intro hbeg hpl1)
        subst he0
        clear g h0 hread hbeg hpl1 HE C1 HO G
        go_wp2_with fail
        refine C2.out.mono ?_
        rintro e w3 ⟨v1, rfl, g⟩
        have HA0 := hid (show BegAt w p name was v1 121 w3 from ⟨_, was, HG.out.1, HG.out.2, g⟩)
        clear g C2 HG
        go_wp2_with fail
        go_loopw [54] (fun iv wr => ∃ k : Nat, k ≤ ms.length ∧ iv = .int .i64 k ∧ BegAt w p name was v1 (121 + k) wr) (fun iv _ => ms.length - (intOf iv).toNat)
        case atStart => exact ⟨0, Nat.zero_le _, rfl, HA0.out⟩
        case round =>
          obtain ⟨k, hkl, rfl, hA⟩ := hrel
          clear HA0
          by_cases hlt : k < ms.length
          · obtain ⟨d, s, hbeg, hpd, hh⟩ := hA
            obtain ⟨b, off, bA, bc, kA, kc, rfl, -, c0, c1, c2, c3, c4, hat⟩ := (hh.dos HK.out.2.1).at hlt
            have hbl := HB.out ms[k] (List.getElem_mem hlt)
            have hob := u8_mod ms[k].op
            have ho1 : 0 ≤ ms[k].op % 8 ∧ ms[k].op % 8 < 8 := by omega
            obtain ⟨kd, hkd⟩ : ∃ kd, kd = ms[k] := ⟨_, rfl⟩
            rw [← hkd] at c0 c1 c2 c3 c4 hat hbl hob ho1
            clear hkd
            obtain ⟨hsb, hsk⟩ := hat.old hh [rBlk wr.heap.size 35 #[.int .i64 kd.op, sv kd.name, .slice bA kd.b.length bc, .int .i64 kd.n, .slice kA kd.keep.length kc], rBytes v1 was]
            have hg0 := (hh.block 35 #[.int .i64 kd.op, sv kd.name, .slice bA kd.b.length bc, .int .i64 kd.n, .slice kA kd.keep.length kc]).pull2
            have CC := hid (does_held hg0 hbeg.ok (by omega) kd hat.wf bA kA bc kc hsb hsk (by omega))
            have HN := hid (fun (w' : World) h5 hn hh' => BegAt.next (w0 := w) (w := w) (w' := w') (p := p) (v1 := v1) (k := kd) hbeg hpd h5 hn hh')
            have HT := hid (BegAt.stay hbeg hpd hh (.cells #[.int .i64 kd.op, sv kd.name, .slice bA kd.b.length bc, .int .i64 kd.n, .slice kA kd.keep.length kc] 35))
            obtain ⟨o, ho⟩ : ∃ o, o = kd.op % 8 := ⟨_, rfl⟩
            rw [← ho] at hob ho1 HN
            obtain ⟨o1, o2⟩ := ho1
            clear hh hat hbl hsb hsk hg0 hbeg hpd ho
            unfold sv at c1 CC HT
            have hm1 : 121 + k + 1 = 121 + (k + 1) := by omega
            rw [hm1] at HT HN
            clear hm1
            cases hb : (kd.name == name) with
            | false =>
              have hne : kd.name ≠ name := by simpa using hb
              have HX := hid hne
              clear hne
              by_cases h5 : 5 ≤ o
              · clear CC
                clear HN
                go_wp2_with fail
                exact ⟨⟨k + 1, by omega, by simp, HT.out⟩, by show ms.length - ((k : Int) + 1).toNat < ms.length - (k : Int).toNat; omega⟩
              · have h5' : o < 5 := by omega
                clear HT
                go_wp2_with fail
                refine CC.out.mono ?_
                rintro e w4 ⟨rfl, g4⟩
                have G4 := hid (HN.out w4 h5' (fun e => absurd e HX.out) (Held.drop0 (Held.pull1 g4)))
                clear g4
                go_wp2_with fail
                exact ⟨⟨k + 1, by omega, by simp, G4.out⟩, by show ms.length - ((k : Int) + 1).toNat < ms.length - (k : Int).toNat; omega⟩
            | true =>
              by_cases h5 : 5 ≤ o
              · have n3 : (o == 3) = false := by rw [beq_eq_false_iff_ne]; omega
                have n4 : (o == 4) = false := by rw [beq_eq_false_iff_ne]; omega
                clear CC
                clear HN
                go_wp2_with fail
                exact ⟨⟨k + 1, by omega, by simp, HT.out⟩, by show ms.length - ((k : Int) + 1).toNat < ms.length - (k : Int).toNat; omega⟩
              · by_cases h3 : o = 3
                · have n3 : (o == 3) = true := by rw [beq_iff_eq]; exact h3
                  clear CC h3
                  clear HN
                  go_wp2_with fail
                  exact ⟨⟨k + 1, by omega, by simp, HT.out⟩, by show ms.length - ((k : Int) + 1).toNat < ms.length - (k : Int).toNat; omega⟩
                · by_cases h4 : o = 4
                  · have n3 : (o == 3) = false := by rw [beq_eq_false_iff_ne]; omega
                    have n4 : (o == 4) = true := by rw [beq_iff_eq]; exact h4
                    clear CC h4 h3
                    clear HN
                    go_wp2_with fail
                    exact ⟨⟨k + 1, by omega, by simp, HT.out⟩, by show ms.length - ((k : Int) + 1).toNat < ms.length - (k : Int).toNat; omega⟩
                  · have n3 : (o == 3) = false := by rw [beq_eq_false_iff_ne]; omega
                    have n4 : (o == 4) = false := by rw [beq_eq_false_iff_ne]; omega
                    have h5' : o < 5 := by omega
                    clear HT
                    go_wp2_with fail
                    refine CC.out.mono ?_
                    rintro e w4 ⟨rfl, g4⟩
                    have G4 := hid (HN.out w4 h5' (fun _ => ⟨h3, h4⟩) (Held.drop0 (Held.pull1 g4)))
                    clear g4
                    go_wp2_with fail
                    exact ⟨⟨k + 1, by omega, by simp, G4.out⟩, by show ms.length - ((k : Int) + 1).toNat < ms.length - (k : Int).toNat; omega⟩
          · obtain ⟨d, s, hbeg, hpd, hh⟩ := hA
            obtain ⟨now, hnow, hun⟩ := hbeg.crash ks tear
            have hsr := hbeg.seen_read
            have R1 := hid (read_held hh.pull1 hbeg.ok name HK.out.2.2)
            rw [hsr] at R1
            unfold sv at R1
            have HG := hid (And.intro hbeg (And.intro hpd (And.intro hnow hun)))
            clear hh hbeg hpd hnow hun hsr
            go_wp2_with fail
            refine R1.out.mono ?_
            rintro e w4 ⟨v2, rfl, g⟩
            -- seen, disk, was
            have C5 := hid (crash_held g.pull1 HG.out.1.ok (by have := HG.out.2.1; omega) ks qA qc (src_old HK.out.1) tear)
            clear g R1
            go_wp2_with fail
            refine C5.out.mono ?_
            rintro e w5 ⟨rfl, g⟩
            -- disk, seen, was
            have R2 := hid (read_held g (HG.out.1.ok.crash ks tear) name HK.out.2.2)
            rw [HG.out.2.2.1] at R2
            unfold sv at R2
            clear g C5
            go_wp2_with fail
            refine R2.out.mono ?_
            rintro e w6 ⟨v3, rfl, g⟩
            -- now, disk, seen, was
            have hr1 := Held.bytes (l1 := []) g
            have hr2 := Held.bytes (l1 := []) (g.pull2)
            have hr3 := Held.bytes (l1 := []) (g.pull3)
            have E := hid (prefix_any (fun _ => True) (fun _ => True) w6 v3 v1 now was hr1 hr3 HG.out.2.2.2.pre)
            obtain ⟨nA, nc, rfl, x1, x2⟩ := Held.form (l1 := []) g
            obtain ⟨sA, sc, rfl, y1, y2⟩ := Held.form (l1 := []) (g.pull2)
            obtain ⟨wA, wc, rfl, z1, z2⟩ := Held.form (l1 := []) (g.pull3)
            have hle := HG.out.2.2.2.le
            have HR := hid (And.intro hr1 (And.intro hr2 hr3))
            have HF := hid g
            clear g R2 hr1 hr2 hr3
            go_wp2_with fail
            refine E.out.mono ?_
            rintro e w7 ⟨rfl, rfl⟩
            clear E
            go_wp2_with fail
            go_loop [117] (fun iv => ∃ j : Nat, j ≤ now.length ∧ iv = .int .i64 j) (fun iv => now.length - (intOf iv).toNat)
            case atStart => exact ⟨0, Nat.zero_le _, rfl⟩
            case round =>
              obtain ⟨j, hjl, rfl⟩ := hrel
              by_cases hjt : j < now.length
              · obtain ⟨b1, f1, rfl, i1⟩ := byte_at HR.out.1 hjt
                have hjs : j < s.length := by omega
                obtain ⟨b2, f2, rfl, i2⟩ := byte_at HR.out.2.1 hjs
                have hcase := HG.out.2.2.2.each j now[j] (List.getElem?_eq_getElem hjt)
                rw [List.getElem?_eq_getElem hjs] at hcase
                generalize now[j] = x at *
                generalize s[j] = y at *
                rcases hcase with hxy | ⟨rfl, hwj⟩
                · have hyx : y = x := by injection hxy
                  subst hyx
                  clear hxy
                  go_wp2_with fail
                  all_goals
                    go_round
                    case rel => first | exact ⟨j + 1, by omega, by go_num⟩ | exact ⟨_, _, _, .int .i64 ((j + 1 : Nat) : Int), ⟨j + 1, by omega, rfl⟩, rfl, rfl, rfl, by go_num⟩
                    case measure => show now.length - ((j : Int) + 1).toNat < now.length - (j : Int).toNat; omega
                · have h00 : ((0 : UInt8).toNat : Int) = 0 := rfl
                  rw [h00] at i1
                  clear h00
                  go_wp2_with fail
                  all_goals
                    go_round
                    case rel => first | exact ⟨j + 1, by omega, by go_num⟩ | exact ⟨_, _, _, .int .i64 ((j + 1 : Nat) : Int), ⟨j + 1, by omega, rfl⟩, rfl, rfl, rfl, by go_num⟩
                    case measure => show now.length - ((j : Int) + 1).toNat < now.length - (j : Int).toNat; omega
              · go_wp2_with fail
                refine (awake_any w6).mono ?_
                rintro e w8 ⟨rfl, hm⟩
                go_wp2_with fail
                go_ret
                exact ⟨rfl, (HF.out.step hm).below⟩
      · have he1 : (er == 0) = false := by simpa using he0
        have G2 := hid g
        clear g he0 HE C1
        go_wp2_with fail
        refine (awake_any w2).mono ?_
        rintro e w3 ⟨rfl, hm⟩
        go_wp2_with fail
        go_ret
        exact ⟨rfl, (G2.out.step hm).below⟩
end Go.Proofs.Ytkednbkildkkmaa
