/- LinkApart: the walk. -/
import Derived.Test.YtcdeknbbeghljaaR17
namespace Go.Proofs.Ytcdeknbbeghljaa
open Go.RowKit
open Link

theorem dos_one {w : World} {S : Nat} (k : Do) (hw : k.Wf) {bA : Option Addr} {bc : Nat} (hb : Rd (· < S) w (.slice bA k.bytes.length bc) (bytesV k.bytes)) (hS : S ≤ w.heap.size) :
    Dos (w.heap.size + 1) (w.alloc (.cells #[.int .i64 k.op, .int .i64 k.id, .int .i64 k.a, .int .i64 k.b, .slice bA k.bytes.length bc] 33)) (.slice (some ⟨w.heap.size, 0, none⟩) 1 1) [k] := by
  have hblk := Blk.new w 33 #[.int .i64 k.op, .int .i64 k.id, .int .i64 k.a, .int .i64 k.b, .slice bA k.bytes.length bc]
  refine ⟨[.slice bA k.bytes.length bc], rfl, ⟨fun r hr => ?_, some ⟨w.heap.size, 0, none⟩, 1, rfl, Nat.le_refl _, by simp [maxLen], fun _ => ⟨w.heap.size, 0, rfl, Nat.lt_succ_self _, fun i j r u hi hj => ?_⟩⟩, fun i d bv h1 h2 => ?_⟩
  · have hr' : r = doRow k (.slice bA k.bytes.length bc) := by simpa using hr
    rw [hr']
    rfl
  · match i with
    | 0 =>
      have hr' : doRow k (.slice bA k.bytes.length bc) = r := by simpa using hi
      subst hr'
      refine hblk.cell ?_
      rw [Nat.zero_mul, Nat.zero_add]
      simpa [doRow] using hj
    | i + 1 => simp at hi
  · match i with
    | 0 =>
      have e1 : k = d := by simpa using h1
      have e2 : (Value.slice bA k.bytes.length bc) = bv := by simpa using h2
      subst e1 e2
      exact ⟨(hb.alloc _).mono fun b _ hb' => by omega, hw⟩
    | i + 1 => simp at h1
def wasTo (n : Net) (j : Nat) : List (List Value) := (n.conns.take j).map fun c => toldRow n c.1
theorem wasTo_succ {n : Net} {j : Nat} (hj : j < n.conns.length) : wasTo n (j + 1) = wasTo n j ++ [toldRow n n.conns[j].1] := by
  unfold wasTo
  rw [List.take_succ_eq_append_getElem hj, List.map_append]
  rfl
theorem wasTo_length {n : Net} {j : Nat} (hj : j ≤ n.conns.length) : (wasTo n j).length = j := by unfold wasTo; simp; omega
theorem told_form (n : Net) (id : Int) : ∃ (a b x y e : Int) (p q : Bool), toldRow n id = [.int .i64 a, .int .i64 b, .int .i64 x, .int .i64 y, .int .i64 e, .bool p, .bool q] := ⟨_, _, _, _, _, _, _, rfl⟩
theorem Try.infoTold : (Try.prog.info? 64).map (fun i => (i.zero, i.size, i.bytes)) = some (some (.agg #[.int .i64 0, .int .i64 0, .int .i64 0, .int .i64 0, .int .i64 0, .bool false, .bool false]), 7, 48) := by kernel_rfl
theorem told_len (n : Net) (id : Int) : (toldRow n id).length = 7 := rfl

set_option maxRecDepth 100000 in
set_option maxHeartbeats 4000000 in
theorem apart_walk (w : World) (v : Value) (ds : List Do) (h : Dos w.heap.size w v ds) (d0 : Do) (hw0 : d0.Wf) (kA : Option Addr) (kc : Nat) (hb0 : Rd (· < w.heap.size) w (.slice kA d0.bytes.length kc) (bytesV d0.bytes)) :
    Calls Try.prog 9 #[v, .agg #[.int .i64 d0.op, .int .i64 d0.id, .int .i64 d0.a, .int .i64 d0.b, .slice kA d0.bytes.length kc]] w fun e w' => e = .returned (.bool true) ∧ Below w.heap.size w w' := by
  obtain ⟨A, c, rfl, hc, hm⟩ := h.form
  have g0 := (Held.begin w).block 33 #[.int .i64 d0.op, .int .i64 d0.id, .int .i64 d0.a, .int .i64 d0.b, .slice kA d0.bytes.length kc]
  have HW := hid (fun w' => awake_any w')
  have HS := hid (short_any w.heap.size (w.alloc (.cells #[.int .i64 d0.op, .int .i64 d0.id, .int .i64 d0.a, .int .i64 d0.b, .slice kA d0.bytes.length kc] 33)) _ ds (h.keep fun b hb _ => Below.heap_alloc w _ b hb))
  have HS2 := hid (short_any ((w.alloc (.cells #[.int .i64 d0.op, .int .i64 d0.id, .int .i64 d0.a, .int .i64 d0.b, .slice kA d0.bytes.length kc] 33)).heap.size + 1) _ _ [d0] (dos_one (w := w.alloc (.cells #[.int .i64 d0.op, .int .i64 d0.id, .int .i64 d0.a, .int .i64 d0.b, .slice kA d0.bytes.length kc] 33)) (S := w.heap.size) d0 hw0 (hb0.alloc _) (by rw [World.size_alloc]; omega)))
  rw [World.size_alloc] at HS2
  have b0 : (w.alloc (.cells #[.int .i64 d0.op, .int .i64 d0.id, .int .i64 d0.a, .int .i64 d0.b, .slice kA d0.bytes.length kc] 33)).cell? ⟨w.heap.size, 0, none⟩ = some (.int .i64 d0.op) := (Held.blk0 g0).cell rfl
  have b1 : (w.alloc (.cells #[.int .i64 d0.op, .int .i64 d0.id, .int .i64 d0.a, .int .i64 d0.b, .slice kA d0.bytes.length kc] 33)).cell? ⟨w.heap.size, 1, none⟩ = some (.int .i64 d0.id) := (Held.blk0 g0).cell rfl
  have b2 : (w.alloc (.cells #[.int .i64 d0.op, .int .i64 d0.id, .int .i64 d0.a, .int .i64 d0.b, .slice kA d0.bytes.length kc] 33)).cell? ⟨w.heap.size, 2, none⟩ = some (.int .i64 d0.a) := (Held.blk0 g0).cell rfl
  have b3 : (w.alloc (.cells #[.int .i64 d0.op, .int .i64 d0.id, .int .i64 d0.a, .int .i64 d0.b, .slice kA d0.bytes.length kc] 33)).cell? ⟨w.heap.size, 3, none⟩ = some (.int .i64 d0.b) := (Held.blk0 g0).cell rfl
  have b4 : (w.alloc (.cells #[.int .i64 d0.op, .int .i64 d0.id, .int .i64 d0.a, .int .i64 d0.b, .slice kA d0.bytes.length kc] 33)).cell? ⟨w.heap.size, 4, none⟩ = some (.slice kA d0.bytes.length kc) := (Held.blk0 g0).cell rfl
  have HD := hid h
  have HB0 := hid (And.intro hb0 hw0)
  have H0 := hid g0
  clear h hw0 hb0 g0
  go_enter Try.func9, Try.ntmps9
  go_wp2_with fail
  refine HS.out.mono ?_
  rintro e w' ⟨r, rfl, hr, rfl⟩
  cases r with
  | false =>
    clear hr
    go_wp2_with fail
    refine (HW.out _).mono ?_
    rintro e w' ⟨rfl, hm⟩
    go_wp2_with fail
    go_ret
    exact ⟨rfl, (H0.out.step hm).below⟩
  | true =>
    obtain ⟨hlen, hbytes⟩ := hr rfl
    clear hr
    go_wp2_with fail
    refine HS2.out.mono ?_
    rintro e w' ⟨r, rfl, hr, rfl⟩
    cases r with
    | false =>
      clear hr
      go_wp2_with fail
      refine (HW.out _).mono ?_
      rintro e w' ⟨rfl, hm⟩
      go_wp2_with fail
      go_ret
      exact ⟨rfl, ((H0.out.alloc _).step hm).below⟩
    | true =>
      obtain ⟨-, hbytes0⟩ := hr rfl
      have hbl0 : d0.bytes.length ≤ 1048576 := by simpa [dlen] using hbytes0
      clear hr hbytes0 HS HS2
      have CN := hid (new_held (H0.out.alloc (.cells #[.int .i64 d0.op, .int .i64 d0.id, .int .i64 d0.a, .int .i64 d0.b, .slice kA d0.bytes.length kc] 33)))
      clear b0 b1 b2 b3 b4
      go_wp2_with fail
      refine CN.out.mono ?_
      rintro e w1 ⟨p, rfl, g1⟩
      have g2 := Held.pull1 (ref_new g1)
      generalize hq : w1.heap.size = q at g2
      have HB := hid (show BothAt w [rBlk w.heap.size 33 #[.int .i64 d0.op, .int .i64 d0.id, .int .i64 d0.a, .int .i64 d0.b, .slice kA d0.bytes.length kc]] p q (0 + dlen ds 0) (0 + 0) (fun _ => True) (w1.alloc (.cells #[.slice none 0 0, .int .i64 0] 58)) from ⟨_, _, fine_empty, by simp [Net.empty], Nat.zero_le _, trivial, g2⟩)
      clear g1 g2 CN
      go_wp2_with fail
      clear hq
      go_loopw [8, 31] (fun _ iv wr => ∃ k : Nat, k ≤ ds.length ∧ iv = .int .i64 k ∧ BothAt w ([rBlk w.heap.size 33 #[.int .i64 d0.op, .int .i64 d0.id, .int .i64 d0.a, .int .i64 d0.b, .slice kA d0.bytes.length kc]]) p q (0 + dlen ds k) (0 + k) (fun _ => True) wr) (fun _ iv _ => ds.length - (intOf iv).toNat)
      case atStart => exact ⟨0, Nat.zero_le _, rfl, HB.out⟩
      case round =>
        obtain ⟨k, hk, rfl, hO⟩ := hrel
        by_cases hlt : k < ds.length
        · obtain ⟨n, M, hf, hlk, hM, hQ, hh⟩ := hO
          have hd := (HD.out.keep (w' := wr) (fun b hb _ => hh.mod.block b hb (fun h => h))).at hlt
          have hr0 := (HD.out).at hlt
          obtain ⟨b, off, bA, bc, rfl, hbb, e0, e1, e2, e3, e4, -, hwf⟩ := hd
          obtain ⟨b', off', bA', bc', hA', hbb', -, -, -, -, e4', hr, -⟩ := hr0
          have hcell : wr.cell? ⟨b', off' + k * 5 + 4, none⟩ = some (.slice bA' ds[k].bytes.length bc') := hh.mod.cell e4' (fun h => h)
          have hsame : (Value.slice bA ds[k].bytes.length bc) = .slice bA' ds[k].bytes.length bc' := by
            have ha : (⟨b, off, none⟩ : Addr) = ⟨b', off', none⟩ := by injection hA'
            injection ha with ha1 ha2
            rw [← ha1, ← ha2] at hcell
            rw [e4] at hcell
            injection hcell
          rw [← hsame] at hr
          have hdl := dlen_succ ds k hlt
          have hdm := dlen_mono ds (show k + 1 ≤ ds.length from hlt)
          generalize ds[k] = d at *
          have CD := hid (ldoes_held (h := hh.alloc (.cells #[.int .i64 d.op, .int .i64 d.id, .int .i64 d.a, .int .i64 d.b, .slice bA d.bytes.length bc] 33)) hf (by omega) (by omega) d hwf bA bc hr (by omega))
          have HK := hid (show ∀ w', Held w w' (rNet p (n.call d) :: rRef (M + d.bytes.length) q (n.call d) :: [rBlk w.heap.size 33 #[.int .i64 d0.op, .int .i64 d0.id, .int .i64 d0.a, .int .i64 d0.b, .slice kA d0.bytes.length kc]]) → BothAt w ([rBlk w.heap.size 33 #[.int .i64 d0.op, .int .i64 d0.id, .int .i64 d0.a, .int .i64 d0.b, .slice kA d0.bytes.length kc]]) p q (0 + dlen ds (k + 1)) (0 + (k + 1)) (fun _ => True) w' from
            fun w' h => ⟨_, _, hf.call d, by have := (call_last n d).2; omega, by omega, trivial, h⟩)
          clear hh hf hr hwf hcell hsame e4' hA' hbb' hbb hdl hdm hQ
          go_wp2_with fail
          refine CD.out.mono ?_
          rintro e w3 ⟨rfl, g3⟩
          have HP := hid (HK.out _ g3)
          clear g3 CD HK
          go_wp2_with fail
          exact ⟨⟨k + 1, by omega, by simp, HP.out⟩, by show ds.length - ((k : Int) + 1).toNat < ds.length - (k : Int).toNat; omega⟩
        · have hke : k = ds.length := by omega
          subst hke
          clear hlt
          obtain ⟨n, M, hf, hlk, hM, -, hh⟩ := hO
          have hfew := hf.ok.few
          have k0 : wr.cell? ⟨w.heap.size, 0, none⟩ = some (.int .i64 d0.op) := (Held.blk0 (Held.pull2 hh)).cell rfl
          have hu := u8_mod d0.op
          by_cases h7 : d0.op % 8 = 7
          · rw [h7] at hu
            go_wp2_with fail
            refine (awake_any wr).mono ?_
            rintro e w' ⟨rfl, hm⟩
            go_wp2_with fail
            go_ret
            exact ⟨rfl, (hh.step hm).below⟩
          · have HO7 := hid h7
            obtain ⟨o, ho⟩ : ∃ o, o = d0.op % 8 := ⟨_, rfl⟩
            rw [← ho] at hu h7
            have hd7 : (o == 7) = false := by simpa using h7
            have HOO := hid ho
            clear h7 ho
            have CC := hid (conns_held [] _ hh hf.ok)
            rw [hf.sorted] at CC
            have HF := hid hf
            clear hh hf
            go_wp2_with fail
            refine CC.out.mono ?_
            rintro e w3 ⟨vi, rfl, g3⟩
            obtain ⟨iA, ic, rfl, il1, il2⟩ := Held.own_form0 g3
            rw [intsV_length, List.length_map] at il1 ⊢
            have G3 := hid (g3.rows_nil 7 64)
            rw [intsV_length, List.length_map] at G3
            clear g3 CC k0
            go_wp2_with fail
            go_loopw [11, 53] (fun vg iv wr => ∃ j : Nat, j ≤ n.conns.length ∧ iv = .int .i64 j ∧ Held w wr (rRows 7 64 vg (wasTo n j) :: rInts (.slice iA n.conns.length ic) (n.conns.map (·.1)) :: rNet p n :: rRef M q n :: [rBlk w.heap.size 33 #[.int .i64 d0.op, .int .i64 d0.id, .int .i64 d0.a, .int .i64 d0.b, .slice kA d0.bytes.length kc]])) (fun _ iv _ => n.conns.length - (intOf iv).toNat)
            case atStart => exact ⟨0, Nat.zero_le _, rfl, G3.out⟩
            case round =>
              obtain ⟨j, hj, rfl, hh⟩ := hrel
              by_cases hjt : j < n.conns.length
              · obtain ⟨g, cc, hvl, q1, q2, hcell⟩ := Held.own_at (Held.pull1 hh) (k := j) (u := .int .i64 n.conns[j].1) (by unfold intsV; rw [List.getElem?_map, List.getElem?_map, List.getElem?_eq_getElem hjt]; rfl)
                injection hvl with hA e2 e3
                subst hA e3
                clear e2
                have hidr := HF.out.ok.ids _ (List.getElem_mem hjt)
                have CT := hid (tells_held (Held.pull2 hh) HF.out.ok (by omega) n.conns[j].1 (wf_small (by omega) (by omega)))
                obtain ⟨rA, rc, hvr, r1, r2⟩ := Held.rows_form (l1 := []) hh
                rw [wasTo_length hj] at hvr r1
                subst hvr
                have HY := hid (wasTo_succ hjt)
                have HL := hid (wasTo_length hj)
                clear hh q1 q2
                generalize n.conns[j].1 = id at *
                obtain ⟨ta, tb, tx, ty, te, tp, tq, htold⟩ := told_form n id
                rw [htold] at CT HY
                clear htold
                obtain ⟨iT, iz, is, ib, iy⟩ := info_parts Try.infoTold
                have HI := hid (And.intro iz (And.intro is (And.intro ib iy)))
                clear iz is ib iy
                go_wp2_with fail
                refine CT.out.mono ?_
                rintro e w4 ⟨rfl, g4⟩
                have HG := hid (g4.alloc (.cells #[.int .i64 ta, .int .i64 tb, .int .i64 tx, .int .i64 ty, .int .i64 te, .bool tp, .bool tq] 64))
                clear g4 CT
                go_wp2_with (at_builtin; refine wpList_append_row [rNet p n] _ rfl _ _ 62 rfl 7 64 iT _ 48 Try.underlying62 HI.out.1 HI.out.2.1 HI.out.2.2.1 HI.out.2.2.2 rfl (by decide) (.slice rA j rc) (wasTo n j) j HL.out rfl HG.out _ _ [.int .i64 ta, .int .i64 tb, .int .i64 tx, .int .i64 ty, .int .i64 te, .bool tp, .bool tq] rfl rfl (World.news_of_block (heap_alloc_new w4 _)) (by intro u hu; simp only [List.mem_cons, List.not_mem_nil, or_false] at hu; rcases hu with rfl | rfl | rfl | rfl | rfl | rfl | rfl <;> rfl) (by omega) (by unfold maxLen; omega) ?c1)
                case c1 =>
                intro A' c' w5 p1 p2 g5
                have G5 := hid (Held.push2 g5)
                clear g5 HG HI
                go_wp2_with fail
                go_roundw
                case rel => exact ⟨j + 1, by omega, by go_num, by rw [HY.out]; exact G5.out⟩
                case measure => simp [intOf]; omega
              · have hje : j = n.conns.length := by omega
                subst hje
                obtain ⟨sA, sc, hvs, sl1, sl2⟩ := Held.rows_form (l1 := []) hh
                rw [wasTo_length (Nat.le_refl _)] at hvs sl1
                subst hvs
                have hB := Held.blk0 (Held.pull4 hh)
                have b0 : wr.cell? ⟨w.heap.size, 0, none⟩ = some (.int .i64 d0.op) := hB.cell rfl
                have b1 : wr.cell? ⟨w.heap.size, 1, none⟩ = some (.int .i64 d0.id) := hB.cell rfl
                have b2 : wr.cell? ⟨w.heap.size, 2, none⟩ = some (.int .i64 d0.a) := hB.cell rfl
                have b3 : wr.cell? ⟨w.heap.size, 3, none⟩ = some (.int .i64 d0.b) := hB.cell rfl
                have b4 : wr.cell? ⟨w.heap.size, 4, none⟩ = some (.slice kA d0.bytes.length kc) := hB.cell rfl
                have CD := hid (ldoes_held (h := Held.pull3 (Held.pull3 hh)) HF.out (by omega) (by omega) d0 HB0.out.2 kA kc HB0.out.1 (by omega))
                have HT := hid (fun (c : Int × Conn) (hc : c ∈ n.conns) (ho : o = 0 ∨ c.1 ≠ d0.id) => told_get (n := n) (m := n.call d0) (id := c.1) (call_other HF.out.ok d0 HO7.out (HF.out.ok.ids c hc).2 (by rw [← HOO.out]; exact ho)))
                have HF2 := hid (HF.out.call d0)
                have hl2 := (call_last n d0).2
                clear hh hB
                generalize n.call d0 = n2 at *
                go_wp2_with fail
                refine CD.out.mono ?_
                rintro e w6 ⟨rfl, g6⟩
                have G6 := hid g6
                clear g6 CD b0 b1 b2 b3 b4
                go_wp2_with fail
                generalize M + d0.bytes.length = M2 at *
                go_loopw [71] (fun iv wr => ∃ j : Nat, j ≤ n.conns.length ∧ iv = .int .i64 j ∧ Held w wr (rNet p n2 :: rRef M2 q n2 :: rRows 7 64 (.slice sA n.conns.length sc) (wasTo n n.conns.length) :: rInts (.slice iA n.conns.length ic) (n.conns.map (·.1)) :: [rBlk w.heap.size 33 #[.int .i64 d0.op, .int .i64 d0.id, .int .i64 d0.a, .int .i64 d0.b, .slice kA d0.bytes.length kc]])) (fun iv _ => n.conns.length - (intOf iv).toNat)
                case atStart => exact ⟨0, Nat.zero_le _, rfl, G6.out⟩
                case round =>
                  obtain ⟨j, hj, rfl, hh⟩ := hrel
                  by_cases hjt : j < n.conns.length
                  · obtain ⟨g, cc, hvl, q1, q2, hcell⟩ := Held.own_at (Held.pull3 hh) (k := j) (u := .int .i64 n.conns[j].1) (by unfold intsV; rw [List.getElem?_map, List.getElem?_map, List.getElem?_eq_getElem hjt]; rfl)
                    injection hvl with hA e2 e3
                    subst hA e3
                    clear e2
                    have hmem := List.getElem_mem hjt
                    obtain ⟨rg, rcc, hrv, q3, q4, hrc⟩ := Held.row_at (Held.pull2 hh) (j := j) (r := toldRow n n.conns[j].1) (by unfold wasTo; rw [List.take_length, List.getElem?_map, List.getElem?_eq_getElem hjt]; rfl)
                    injection hrv with hA e2 e3
                    subst hA e3
                    clear e2
                    have HTJ := hid (HT.out n.conns[j] hmem)
                    have hidr := HF.out.ok.ids _ hmem
                    have hkb : wr.cell? ⟨w.heap.size, 1, none⟩ = some (.int .i64 d0.id) := (Held.blk0 (Held.pull4 hh)).cell rfl
                    have CT := hid (fun (w' : World) (h : Held w w' (rNet p n2 :: rRef M2 q n2 :: rRows 7 64 (.slice (some ⟨rg, 0, none⟩) n.conns.length sc) (wasTo n n.conns.length) :: rInts (.slice (some ⟨g, 0, none⟩) n.conns.length ic) (n.conns.map (·.1)) :: [rBlk w.heap.size 33 #[.int .i64 d0.op, .int .i64 d0.id, .int .i64 d0.a, .int .i64 d0.b, .slice kA d0.bytes.length kc]])) => tells_held h HF2.out.ok (by omega) n.conns[j].1 (wf_small (by omega) (by omega)))
                    have HRC := hid (fun (w' : World) (h : Held w w' (rNet p n2 :: rRef M2 q n2 :: rRows 7 64 (.slice (some ⟨rg, 0, none⟩) n.conns.length sc) (wasTo n n.conns.length) :: rInts (.slice (some ⟨g, 0, none⟩) n.conns.length ic) (n.conns.map (·.1)) :: [rBlk w.heap.size 33 #[.int .i64 d0.op, .int .i64 d0.id, .int .i64 d0.a, .int .i64 d0.b, .slice kA d0.bytes.length kc]])) => show (∀ m u, (toldRow n n.conns[j].1)[m]? = some u → w'.cell? ⟨rg, j * 7 + m, none⟩ = some u) ∧ w'.cell? ⟨w.heap.size, 1, none⟩ = some (.int .i64 d0.id) from by
                      obtain ⟨rg', rcc', hrv', -, -, hrc'⟩ := Held.row_at (Held.pull2 h) (j := j) (r := toldRow n n.conns[j].1) (by unfold wasTo; rw [List.take_length, List.getElem?_map, List.getElem?_eq_getElem hjt]; rfl)
                      injection hrv' with hA' _ _
                      injection hA' with hA'
                      injection hA' with hA'
                      subst hA'
                      exact ⟨hrc', (Held.blk0 (Held.pull4 h)).cell rfl⟩)
                    have HH := hid hh
                    clear hh hmem q1 q2 q3 q4
                    generalize n.conns[j].1 = id at *
                    obtain ⟨ta, tb, tx, ty, te, tp, tq, htold⟩ := told_form n id
                    rw [htold] at hrc HRC
                    have c0 := hrc 0 _ rfl
                    have c1 := hrc 1 _ rfl
                    have c2 := hrc 2 _ rfl
                    have c3 := hrc 3 _ rfl
                    have c4 := hrc 4 _ rfl
                    have c5 := hrc 5 _ rfl
                    have c6 := hrc 6 _ rfl
                    clear hrc
                    cases hoz : (o == 0) with
                    | true =>
                      obtain rfl : o = 0 := by simpa using hoz
                      have htk := (HTJ.out (.inl rfl)).trans htold
                      have CTB := hid (fun w' h => show Calls Try.prog 29 #[.pointer (some ⟨p, 0, none⟩), .int .i64 id] w' fun e w'' => e = .returned (.agg #[.int .i64 ta, .int .i64 tb, .int .i64 tx, .int .i64 ty, .int .i64 te, .bool tp, .bool tq]) ∧ Held w w'' _ from by
                        have h2 := CT.out w' h
                        rw [htk] at h2
                        exact h2)
                      clear CT HTJ htold hoz hd7 hkb
                      go_wp2_with fail
                      refine wp_region_held_drew (S := fun w' => w'.cell? ⟨rg, j * 7, none⟩ = some (.int .i64 ta) ∧ w'.cell? ⟨rg, j * 7 + 1, none⟩ = some (.int .i64 tb) ∧ w'.cell? ⟨rg, j * 7 + 2, none⟩ = some (.int .i64 tx) ∧ w'.cell? ⟨rg, j * 7 + 3, none⟩ = some (.int .i64 ty) ∧ w'.cell? ⟨rg, j * 7 + 4, none⟩ = some (.int .i64 te) ∧ w'.cell? ⟨rg, j * 7 + 5, none⟩ = some (.bool tp) ∧ w'.cell? ⟨rg, j * 7 + 6, none⟩ = some (.bool tq)) (by kernel_rfl) (by exact ⟨c0, c1, c2, c3, c4, c5, c6⟩) (fun hHeld => ?_)
                      refine' wpAnyH_take (i := 0) (oi := _) (v := _) rfl (by kernel_rfl) (by kernel_rfl) (by kernel_rfl) (fun _ _ _ h => h) (Or.inl ⟨by rfl, ?hy⟩) (by assumption) ?rest
                      case hy => (intro w hSw; (try dsimp only at hSw); go_simp; try (with_reducible rfl))
                      case rest =>
                        try simp only [Act.put, List.getElem_toArray, List.getElem_cons_zero, List.getElem_cons_succ, List.setIfInBounds_toArray, List.set_cons_zero, List.set_cons_succ]
                        refine' wpAnyH_take (i := 1) (oi := _) (v := _) rfl (by kernel_rfl) (by kernel_rfl) (by kernel_rfl) (fun _ _ _ h => h) (Or.inl ⟨by rfl, ?hy⟩) (by assumption) ?rest
                        case hy => (intro w hSw; (try dsimp only at hSw); go_simp; try (with_reducible rfl))
                        case rest =>
                          try simp only [Act.put, List.getElem_toArray, List.getElem_cons_zero, List.getElem_cons_succ, List.setIfInBounds_toArray, List.set_cons_zero, List.set_cons_succ]
                          refine' wpAnyH_take (i := 2) (oi := _) (v := _) rfl (by kernel_rfl) (by kernel_rfl) (by kernel_rfl) (fun _ _ _ h => h) (Or.inl ⟨by rfl, ?hy⟩) (by assumption) ?rest
                          case hy => (intro w hSw; (try dsimp only at hSw); go_simp; try (with_reducible rfl))
                          case rest =>
                            try simp only [Act.put, List.getElem_toArray, List.getElem_cons_zero, List.getElem_cons_succ, List.setIfInBounds_toArray, List.set_cons_zero, List.set_cons_succ]
                            refine wpAnyH_take (i := 3) (oi := _) (v := undef) rfl (by kernel_rfl) (by kernel_rfl) (by kernel_rfl) (fun _ _ _ h => h) (Or.inr ⟨by rfl, rfl⟩) (by assumption) ?_
                            try simp only [Act.put, List.getElem_toArray, List.getElem_cons_zero, List.getElem_cons_succ, List.setIfInBounds_toArray, List.set_cons_zero, List.set_cons_succ]
                            refine wpAnyH_take (i := 4) (oi := _) (v := undef) rfl (by kernel_rfl) (by kernel_rfl) (by kernel_rfl) (fun _ _ _ h => h) (Or.inr ⟨by rfl, rfl⟩) (by assumption) ?_
                            try simp only [Act.put, List.getElem_toArray, List.getElem_cons_zero, List.getElem_cons_succ, List.setIfInBounds_toArray, List.set_cons_zero, List.set_cons_succ]
                            refine wpAnyH_take (i := 5) (oi := _) (v := undef) rfl (by kernel_rfl) (by kernel_rfl) (by kernel_rfl) (fun _ _ _ h => h) (Or.inr ⟨by rfl, rfl⟩) (by assumption) ?_
                            try simp only [Act.put, List.getElem_toArray, List.getElem_cons_zero, List.getElem_cons_succ, List.setIfInBounds_toArray, List.set_cons_zero, List.set_cons_succ]
                            refine wpAnyH_take (i := 6) (oi := _) (v := undef) rfl (by kernel_rfl) (by kernel_rfl) (by kernel_rfl) (fun _ _ _ h => h) (Or.inr ⟨by rfl, rfl⟩) (by assumption) ?_
                            try simp only [Act.put, List.getElem_toArray, List.getElem_cons_zero, List.getElem_cons_succ, List.setIfInBounds_toArray, List.set_cons_zero, List.set_cons_succ]
                            refine' wpAnyH_take (i := 7) (oi := _) (v := _) rfl (by kernel_rfl) (by kernel_rfl) (by kernel_rfl) (fun _ _ _ h => h) (Or.inl ⟨by rfl, ?hy⟩) (by assumption) ?rest
                            case hy => (intro w hSw; (try dsimp only at hSw); go_simp; try (with_reducible rfl))
                            case rest =>
                              try simp only [Act.put, List.getElem_toArray, List.getElem_cons_zero, List.getElem_cons_succ, List.setIfInBounds_toArray, List.set_cons_zero, List.set_cons_succ]
                              refine' wpAnyH_take (i := 8) (oi := _) (v := _) rfl (by kernel_rfl) (by kernel_rfl) (by kernel_rfl) (fun _ _ _ h => h) (Or.inl ⟨by rfl, ?hy⟩) (by assumption) ?rest
                              case hy => (intro w hSw; (try dsimp only at hSw); go_simp; try (with_reducible rfl))
                              case rest =>
                                try simp only [Act.put, List.getElem_toArray, List.getElem_cons_zero, List.getElem_cons_succ, List.setIfInBounds_toArray, List.set_cons_zero, List.set_cons_succ]
                                refine' wpAnyH_take (i := 9) (oi := _) (v := _) rfl (by kernel_rfl) (by kernel_rfl) (by kernel_rfl) (fun _ _ _ h => h) (Or.inl ⟨by rfl, ?hy⟩) (by assumption) ?rest
                                case hy => (intro w hSw; (try dsimp only at hSw); go_simp; try (with_reducible rfl))
                                case rest =>
                                  try simp only [Act.put, List.getElem_toArray, List.getElem_cons_zero, List.getElem_cons_succ, List.setIfInBounds_toArray, List.set_cons_zero, List.set_cons_succ]
                                  refine' wpAnyH_take (i := 10) (oi := _) (v := _) rfl (by kernel_rfl) (by kernel_rfl) (by kernel_rfl) (fun _ _ _ h => h) (Or.inl ⟨by rfl, ?hy⟩) (by assumption) ?rest
                                  case hy => (intro w hSw; (try dsimp only at hSw); go_simp; try (with_reducible rfl))
                                  case rest =>
                                    try simp only [Act.put, List.getElem_toArray, List.getElem_cons_zero, List.getElem_cons_succ, List.setIfInBounds_toArray, List.set_cons_zero, List.set_cons_succ]
                                    refine' wpAnyH_take (i := 12) (oi := _) (v := _) rfl (by kernel_rfl) (by kernel_rfl) (by kernel_rfl) (fun _ _ _ h => h) (Or.inl ⟨by rfl, ?hy⟩) (by assumption) ?rest
                                    case hy => (intro w hSw; (try dsimp only at hSw); go_simp; try (with_reducible rfl))
                                    case rest =>
                                      try simp only [Act.put, List.getElem_toArray, List.getElem_cons_zero, List.getElem_cons_succ, List.setIfInBounds_toArray, List.set_cons_zero, List.set_cons_succ]
                                      refine' wpAnyH_take (i := 13) (oi := _) (v := _) rfl (by kernel_rfl) (by kernel_rfl) (by kernel_rfl) (fun _ _ _ h => h) (Or.inl ⟨by rfl, ?hy⟩) (by assumption) ?rest
                                      case hy => (intro w hSw; (try dsimp only at hSw); go_simp; try (with_reducible rfl))
                                      case rest =>
                                        try simp only [Act.put, List.getElem_toArray, List.getElem_cons_zero, List.getElem_cons_succ, List.setIfInBounds_toArray, List.set_cons_zero, List.set_cons_succ]
                                        refine' wpAnyH_take (i := 14) (oi := _) (v := _) rfl (by kernel_rfl) (by kernel_rfl) (by kernel_rfl) (fun _ _ _ h => h) (Or.inl ⟨by rfl, ?hy⟩) (by assumption) ?rest
                                        case hy => (intro w hSw; (try dsimp only at hSw); go_simp; try (with_reducible rfl))
                                        case rest =>
                                          try simp only [Act.put, List.getElem_toArray, List.getElem_cons_zero, List.getElem_cons_succ, List.setIfInBounds_toArray, List.set_cons_zero, List.set_cons_succ]
                                          refine' wpAnyH_take (i := 15) (oi := _) (v := _) rfl (by kernel_rfl) (by kernel_rfl) (by kernel_rfl) (fun _ _ _ h => h) (Or.inl ⟨by rfl, ?hy⟩) (by assumption) ?rest
                                          case hy => (intro w hSw; (try dsimp only at hSw); go_simp; try (with_reducible rfl))
                                          case rest =>
                                            try simp only [Act.put, List.getElem_toArray, List.getElem_cons_zero, List.getElem_cons_succ, List.setIfInBounds_toArray, List.set_cons_zero, List.set_cons_succ]
                                            refine wpAnyH_ready (rs := [11]) (by kernel_rfl) (by simp) ?_
                                            refine AllReadyH.cons (o := _) rfl (fun K hK => ?_) AllReadyH.nil
                                            go_simp
                                            go_at_call 29; refine (CTB.out _ (HH.out.drew)).mono ?_; rintro e w7 ⟨rfl, g7⟩; obtain ⟨hz7, dk⟩ := HRC.out _ g7; have z0 := hz7 0 _ rfl; have z1 := hz7 1 _ rfl; have z2 := hz7 2 _ rfl; have z3 := hz7 3 _ rfl; have z4 := hz7 4 _ rfl; have z5 := hz7 5 _ rfl; have z6 := hz7 6 _ rfl; have G7 := hid g7; clear g7 hz7
                                            refine hK.out _ _ (by first | exact ⟨c0, c1, c2, c3, c4, c5, c6⟩ | exact ⟨z0, z1, z2, z3, z4, z5, z6⟩) (fun hHeld => ?_)
                                            clear hK K
                                            try simp only [Act.put, List.getElem_toArray, List.getElem_cons_zero, List.getElem_cons_succ, List.setIfInBounds_toArray, List.set_cons_zero, List.set_cons_succ]
                                            refine' wpAnyH_take (i := 16) (oi := _) (v := _) rfl (by kernel_rfl) (by kernel_rfl) (by kernel_rfl) (fun _ _ _ h => h) (Or.inl ⟨by rfl, ?hy⟩) (by assumption) ?rest
                                            case hy => (intro w hSw; (try dsimp only at hSw); go_simp; try (with_reducible rfl))
                                            case rest =>
                                              try simp only [Act.put, List.getElem_toArray, List.getElem_cons_zero, List.getElem_cons_succ, List.setIfInBounds_toArray, List.set_cons_zero, List.set_cons_succ]
                                              refine' wpAnyH_take (i := 17) (oi := _) (v := _) rfl (by kernel_rfl) (by kernel_rfl) (by kernel_rfl) (fun _ _ _ h => h) (Or.inl ⟨by rfl, ?hy⟩) (by assumption) ?rest
                                              case hy => (intro w hSw; (try dsimp only at hSw); go_simp; try (with_reducible rfl))
                                              case rest =>
                                                try simp only [Act.put, List.getElem_toArray, List.getElem_cons_zero, List.getElem_cons_succ, List.setIfInBounds_toArray, List.set_cons_zero, List.set_cons_succ]
                                                refine wpAnyH_done (by kernel_rfl) ?_ _
                                                go_wp2_with fail
                                                go_roundw
                                                case rel => exact ⟨j + 1, by omega, by go_num, G7.out⟩
                                                case measure => simp [intOf]; omega
                    | false =>
                      have h0 : ¬ o = 0 := by simpa using hoz
                      cases hne : (id != d0.id) with
                      | true =>
                        have hne' : ¬ id = d0.id := by simpa using hne
                        have htk := (HTJ.out (.inr hne')).trans htold
                        have CTB := hid (fun w' h => show Calls Try.prog 29 #[.pointer (some ⟨p, 0, none⟩), .int .i64 id] w' fun e w'' => e = .returned (.agg #[.int .i64 ta, .int .i64 tb, .int .i64 tx, .int .i64 ty, .int .i64 te, .bool tp, .bool tq]) ∧ Held w w'' _ from by
                          have h2 := CT.out w' h
                          rw [htk] at h2
                          exact h2)
                        clear CT HTJ htold
                        go_wp2_with fail
                        go_region_held3 (fun w' => w'.cell? ⟨rg, j * 7, none⟩ = some (.int .i64 ta) ∧ w'.cell? ⟨rg, j * 7 + 1, none⟩ = some (.int .i64 tb) ∧ w'.cell? ⟨rg, j * 7 + 2, none⟩ = some (.int .i64 tx) ∧ w'.cell? ⟨rg, j * 7 + 3, none⟩ = some (.int .i64 ty) ∧ w'.cell? ⟨rg, j * 7 + 4, none⟩ = some (.int .i64 te) ∧ w'.cell? ⟨rg, j * 7 + 5, none⟩ = some (.bool tp) ∧ w'.cell? ⟨rg, j * 7 + 6, none⟩ = some (.bool tq) ∧ w'.cell? ⟨w.heap.size, 1, none⟩ = some (.int .i64 d0.id))
                          (first | exact ⟨c0, c1, c2, c3, c4, c5, c6, hkb⟩ | exact ⟨z0, z1, z2, z3, z4, z5, z6, dk⟩)
                          (first
                            | (go_at_call 29; refine (CTB.out _ (HH.out.drew)).mono ?_; rintro e w7 ⟨rfl, g7⟩; obtain ⟨hz7, dk⟩ := HRC.out _ g7; have z0 := hz7 0 _ rfl; have z1 := hz7 1 _ rfl; have z2 := hz7 2 _ rfl; have z3 := hz7 3 _ rfl; have z4 := hz7 4 _ rfl; have z5 := hz7 5 _ rfl; have z6 := hz7 6 _ rfl; have G7 := hid g7; clear g7 hz7))
                        all_goals
                          go_wp2_with fail
                          go_roundw
                          case rel => exact ⟨j + 1, by omega, by go_num, G7.out⟩
                          case measure => simp [intOf]; omega
                      | false =>
                        obtain rfl : id = d0.id := by simpa using hne
                        clear CT HTJ HRC htold hne
                        go_wp2_with fail
                        go_quiet (fail)
                        go_wp2_with fail
                        go_roundw
                        case rel => exact ⟨j + 1, by omega, by go_num, HH.out.drewN nq⟩
                        case measure => simp [intOf]; omega
                  · go_wp2_with fail
                    refine (awake_any wr).mono ?_
                    rintro e w' ⟨rfl, hm⟩
                    go_wp2_with fail
                    go_ret
                    exact ⟨rfl, (hh.step hm).below⟩
end Go.Proofs.Ytcdeknbbeghljaa
