/- LinkGone: the walk. -/
import Derived.Test.YtcdeknbbeghljaaR14
namespace Go.Proofs.Ytcdeknbbeghljaa
open Go.RowKit
open Link

def goneTo (n : Net) (node : Int) (k : Nat) : List Int := ((n.conns.take k).filter fun p => !(p.2.end_ node == -1)).map (·.1)
theorem goneTo_yes {n : Net} {node : Int} {k : Nat} (hk : k < n.conns.length) (h : (n.conns[k].2.end_ node == -1) = false) : goneTo n node (k + 1) = goneTo n node k ++ [n.conns[k].1] := by
  unfold goneTo
  rw [List.take_succ_eq_append_getElem hk, List.filter_append, List.filter_cons, h]
  simp
theorem goneTo_no {n : Net} {node : Int} {k : Nat} (hk : k < n.conns.length) (h : (n.conns[k].2.end_ node == -1) = true) : goneTo n node (k + 1) = goneTo n node k := by
  unfold goneTo
  rw [List.take_succ_eq_append_getElem hk, List.filter_append, List.filter_cons, h]
  simp
theorem goneTo_le {n : Net} {node : Int} {k : Nat} : (goneTo n node k).length ≤ n.conns.length := by
  unfold goneTo
  rw [List.length_map]
  exact Nat.le_trans (List.length_filter_le _ _) (by rw [List.length_take]; omega)
theorem goneTo_gone {n : Net} (hf : n.Fine) {node : Int} {k : Nat} : ∀ i ∈ goneTo n node k, (n.drop node).1.Gone i ∧ 1 ≤ i ∧ i ≤ n.last := by
  intro i hi
  unfold goneTo at hi
  obtain ⟨c, hc, rfl⟩ := List.mem_map.1 hi
  obtain ⟨h1, h2⟩ := List.mem_filter.1 hc
  have hm := List.mem_of_mem_take h1
  exact ⟨drop_gone hf node hm (by simpa using h2), hf.ok.ids c hm⟩
def AllGone (gs : List Int) (n : Net) : Prop := ∀ i ∈ gs, n.Gone i

set_option maxRecDepth 100000 in
set_option maxHeartbeats 4000000 in
theorem gone_walk (w : World) (v : Value) (ds : List Do) (h : Dos w.heap.size w v ds) (v2 : Value) (ds2 : List Do) (h2 : Dos w.heap.size w v2 ds2) (node : Int) :
    Calls Try.prog 7 #[v, v2, .int .i64 node] w fun e w' => e = .returned (.bool true) ∧ Below w.heap.size w w' := by
  obtain ⟨A, c, rfl, hc, hm⟩ := h.form
  obtain ⟨A2, c2, rfl, hc2, hm2⟩ := h2.form
  have HW := hid (awake_any w)
  have HS := hid (short_any w.heap.size w _ ds h)
  have HS2 := hid (short_any w.heap.size w _ ds2 h2)
  have HD := hid h
  have HD2 := hid h2
  have H0 := hid (Held.begin w)
  clear h h2
  go_enter Try.func7, Try.ntmps7
  go_wp2_with fail
  refine HS.out.mono ?_
  rintro e w' ⟨r, rfl, hr, rfl⟩
  cases r with
  | false =>
    clear hr
    go_wp2_with fail
    refine HW.out.mono ?_
    rintro e w' ⟨rfl, hm⟩
    go_wp2_with fail
    go_ret
    exact ⟨rfl, hm.below (Nat.le_refl _) (fun _ _ h => h)⟩
  | true =>
    obtain ⟨hlen, hbytes⟩ := hr rfl
    clear hr
    go_wp2_with fail
    refine HS2.out.mono ?_
    rintro e w' ⟨r, rfl, hr, rfl⟩
    cases r with
    | false =>
      clear hr
      go_wp2_with fail
      refine HW.out.mono ?_
      rintro e w' ⟨rfl, hm⟩
      go_wp2_with fail
      go_ret
      exact ⟨rfl, hm.below (Nat.le_refl _) (fun _ _ h => h)⟩
    | true =>
      obtain ⟨hlen2, hbytes2⟩ := hr rfl
      clear hr
      go_wp2_with fail
      refine (new_held H0.out).mono ?_
      rintro e w1 ⟨p, rfl, g1⟩
      have g2 := Held.pull1 (ref_new g1)
      generalize hq : w1.heap.size = q at g2
      have HB := hid (show BothAt w [] p q (0 + dlen ds 0) (0 + 0) (fun _ => True) (w1.alloc (.cells #[.slice none 0 0, .int .i64 0] 58)) from ⟨_, _, fine_empty, by simp [Net.empty], Nat.zero_le _, trivial, g2⟩)
      clear g1 g2
      go_wp2_with fail
      clear hq
      go_loopw [10, 37] (fun _ iv wr => ∃ k : Nat, k ≤ ds.length ∧ iv = .int .i64 k ∧ BothAt w ([]) p q (0 + dlen ds k) (0 + k) (fun _ => True) wr) (fun _ iv _ => ds.length - (intOf iv).toNat)
      case atStart => exact ⟨0, Nat.zero_le _, rfl, HB.out⟩
      case round =>
        obtain ⟨k, hk, rfl, hO⟩ := hrel
        by_cases hlt : k < ds.length
        · obtain ⟨n, M, hf, hlk, hM, hQ, hh⟩ := hO
          have hd := (HD.out.keep (w' := wr) (fun b hb _ => hh.mod.block b hb (fun h => h))).at hlt
          have hr0 := (HD.out).at hlt
          obtain ⟨b, off, bA, bc, rfl, hbb, e0, e1, e2, e3, e4, -, hwf⟩ := hd
          obtain ⟨b', off', bA', bc', hA', hbb', -, -, -, -, e4', hr, -⟩ := hr0
          have hcell : wr.cell? ⟨b', off' + k * 5 + 4, none⟩ = some (.slice bA' ds[k].bytes.length bc') := hh.mod.cell e4' (fun h => h)
          have hsame : (Value.slice bA ds[k].bytes.length bc) = .slice bA' ds[k].bytes.length bc' := by
            have ha : (⟨b, off, none⟩ : Addr) = ⟨b', off', none⟩ := by injection hA'
            injection ha with ha1 ha2
            rw [← ha1, ← ha2] at hcell
            rw [e4] at hcell
            injection hcell
          rw [← hsame] at hr
          have hdl := dlen_succ ds k hlt
          have hdm := dlen_mono ds (show k + 1 ≤ ds.length from hlt)
          generalize ds[k] = d at *
          have CD := hid (ldoes_held (h := hh.alloc (.cells #[.int .i64 d.op, .int .i64 d.id, .int .i64 d.a, .int .i64 d.b, .slice bA d.bytes.length bc] 33)) hf (by omega) (by omega) d hwf bA bc hr (by omega))
          have HK := hid (show ∀ w', Held w w' (rNet p (n.call d) :: rRef (M + d.bytes.length) q (n.call d) :: []) → BothAt w ([]) p q (0 + dlen ds (k + 1)) (0 + (k + 1)) (fun _ => True) w' from
            fun w' h => ⟨_, _, hf.call d, by have := (call_last n d).2; omega, by omega, trivial, h⟩)
          clear hh hf hr hwf hcell hsame e4' hA' hbb' hbb hdl hdm hQ
          go_wp2_with fail
          refine CD.out.mono ?_
          rintro e w3 ⟨rfl, g3⟩
          have HP := hid (HK.out _ g3)
          clear g3 CD HK
          go_wp2_with fail
          exact ⟨⟨k + 1, by omega, by simp, HP.out⟩, by show ds.length - ((k : Int) + 1).toNat < ds.length - (k : Int).toNat; omega⟩
        · have hke : k = ds.length := by omega
          subst hke
          clear hlt
          obtain ⟨n, M, hf, hlk, hM, -, hh⟩ := hO
          have hfew := hf.ok.few
          have CC := hid (conns_held [] _ hh hf.ok)
          rw [hf.sorted] at CC
          have HF := hid hf
          clear hh hf
          go_wp2_with fail
          refine CC.out.mono ?_
          rintro e w3 ⟨vi, rfl, g3⟩
          obtain ⟨iA, ic, rfl, il1, il2⟩ := Held.own_form0 g3
          rw [intsV_length, List.length_map] at il1 ⊢
          have G3 := hid (g3.own_nil 3)
          rw [intsV_length, List.length_map] at G3
          clear g3 CC
          go_wp2_with fail
          go_loopw [11, 50] (fun vg iv wr => ∃ k : Nat, k ≤ n.conns.length ∧ iv = .int .i64 k ∧ Held w wr (rInts vg (goneTo n node k) :: rInts (.slice iA n.conns.length ic) (n.conns.map (·.1)) :: rNet p n :: rRef M q n :: [])) (fun _ iv _ => n.conns.length - (intOf iv).toNat)
          case atStart => exact ⟨0, Nat.zero_le _, rfl, G3.out⟩
          case round =>
            obtain ⟨k, hk, rfl, hh⟩ := hrel
            by_cases hlt : k < n.conns.length
            · obtain ⟨g, cc, hvl, q1, q2, hcell⟩ := Held.own_at (Held.pull1 hh) (k := k) (u := .int .i64 n.conns[k].1) (by unfold intsV; rw [List.getElem?_map, List.getElem?_map, List.getElem?_eq_getElem hlt]; rfl)
              injection hvl with hA e2 e3
              subst hA e3
              clear e2
              have hmem : n.conns[k] ∈ n.conns := List.getElem_mem hlt
              have hg := get_at HF.out.ok hmem
              have hidr := HF.out.ok.ids _ hmem
              have CE := hid (ends_held [_, _] _ hh HF.out.ok (by omega) n.conns[k].1 (wf_small (by omega) (by omega)))
              have hen : n.ends n.conns[k].1 = (n.conns[k].2.a, n.conns[k].2.b, 0) := by unfold Net.ends; rw [hg]
              rw [hen] at CE
              obtain ⟨gA, gc, hvg, gl1, gl2⟩ := Held.own_form0 hh
              rw [intsV_length] at hvg gl1
              subst hvg
              have hle := goneTo_le (n := n) (node := node) (k := k)
              have HY := hid (fun h => goneTo_yes (n := n) (node := node) hlt h)
              have HN := hid (fun h => goneTo_no (n := n) (node := node) hlt h)
              have HE := hid (ends_node (c := n.conns[k].2) (node := node))
              clear hh hmem hg hen q1 q2
              generalize n.conns[k] = cn at *
              obtain ⟨ci, cv⟩ := cn
              go_wp2_with fail
              refine CE.out.mono ?_
              rintro e w4 ⟨rfl, g4⟩
              have HL := hid (show (intsV (goneTo n node k)).length = (goneTo n node k).length from intsV_length _)
              generalize (goneTo n node k).length = lg at *
              have HG4 := hid g4
              clear g4 CE
              have hcase : (cv.a == node) = true ∨ ((cv.a == node) = false ∧ (cv.b == node) = true) ∨ ((cv.a == node) = false ∧ (cv.b == node) = false) := by
                cases (cv.a == node) <;> cases (cv.b == node) <;> simp
              rcases hcase with ha | ⟨ha, hb⟩ | ⟨ha, hb⟩
              iterate 2
                · have HQ := hid (show (cv.end_ node == -1) = false by
                    have := HE.out.1 (by simp at ha; first | exact .inl ha | (simp at hb; exact .inr hb))
                    simpa using this)
                  obtain ⟨iT, iz, is, ib, iy⟩ := info_parts Try.infoInt
                  have HI := hid (And.intro iz (And.intro is (And.intro ib iy)))
                  have HRD := hid (Rd.newRow w4 3 [.int .i64 ci] (0, 0) (by simp [maxLen]))
                  have HG := hid (HG4.out.alloc (.cells #[.int .i64 ci] 3))
                  clear iz is ib iy
                  go_wp2_with (at_builtin; refine wpList_append_held (w0 := w) [] _ rfl _ _ 44 rfl 3 iT (.int .i64 0) 8 Try.underlying44 HI.out.1 HI.out.2.1 HI.out.2.2.1 HI.out.2.2.2 rfl (.slice gA lg gc) (intsV (goneTo n node k)) rfl HG.out _ (.slice (some ⟨w4.heap.size, 0, none⟩) 1 1) [.int .i64 ci] rfl HRD.out (by intro x hx; rw [List.mem_singleton.1 hx]; rfl) (by rw [HL.out]; simp; omega) (by rw [HL.out]; unfold maxLen; simp; omega) ?c1)
                  case c1 =>
                  intro A' c' w5 p1 p2 g5
                  simp only [HL.out, List.length_cons, List.length_nil] at g5 p1 ⊢
                  have G5 := hid g5
                  clear g5 HG HRD HI
                  go_wp2_with fail
                  go_roundw
                  case rel =>
                    refine ⟨k + 1, by omega, by go_num, ?_⟩
                    have g5 := G5.out
                    rw [HY.out HQ.out]
                    unfold rInts
                    rw [intsV_append]
                    exact g5
                  case measure => simp [intOf]; omega
              · have HQ := hid (show (cv.end_ node == -1) = true by
                  cases he : (cv.end_ node == -1) with
                  | true => rfl
                  | false =>
                    have := HE.out.2 (by simpa using he)
                    simp at ha hb
                    rcases this with h | h
                    · exact absurd h ha
                    · exact absurd h hb)
                go_wp2_with fail
                go_roundw
                case rel => exact ⟨k + 1, by omega, by go_num, by rw [HN.out HQ.out]; exact HG4.out⟩
                case measure => simp [intOf]; omega
            · have hke : k = n.conns.length := by omega
              subst hke
              have hgs : ∀ i ∈ goneTo n node n.conns.length, (n.drop node).1.Gone i ∧ 1 ≤ i ∧ i ≤ n.last := goneTo_gone HF.out
              have hcnt : (n.drop node).2 = ((goneTo n node n.conns.length).length : Int) := by
                rw [drop_count]
                unfold goneTo
                rw [List.take_length, List.length_map]
              obtain ⟨gA, gc, hvg, gl1, gl2⟩ := Held.own_form0 hh
              rw [intsV_length] at hvg gl1
              subst hvg
              have CD := hid (drop_held (Held.pull2 hh) HF.out.ok (by omega) node)
              rw [hcnt] at CD
              generalize hgl : goneTo n node n.conns.length = gs at *
              have HGS := hid hgs
              have HGL := hid hgl
              clear hh hgs hcnt hgl
              go_wp2_with fail
              refine CD.out.mono ?_
              rintro e w4 ⟨rfl, g4⟩
              have CR := hid (rdrop_held (Held.pull3 g4) (by omega) node)
              clear g4 CD
              go_wp2_with fail
              refine CR.out.mono ?_
              rintro e w5 ⟨rfl, g5⟩
              have HB2 := hid (show BothAt w [rInts (.slice gA gs.length gc) gs] p q (M + dlen ds2 0) (ds.length + 0) (AllGone gs) w5 from ⟨_, _, HF.out.drop node, by show n.last ≤ _; omega, Nat.le_add_right _ _, fun i hi => (HGS.out i hi).1, (Held.drop0 (Held.pull3 g5)).perm (List.Perm.trans (List.Perm.swap _ _ _) (List.Perm.cons _ (List.Perm.cons _ (List.Perm.refl _))))⟩)
              have HGR := hid (show ∀ i ∈ gs, (Lit.int .i64 i).wf = true from fun i hi => wf_small (by have := (HGS.out i hi).2; omega) (by have := (HGS.out i hi).2; omega))
              clear g5 CR HGS HGL
              go_wp2_with fail
              go_loopw [18, 85] (fun _ iv wr => ∃ k : Nat, k ≤ ds2.length ∧ iv = .int .i64 k ∧ BothAt w ([rInts (.slice gA gs.length gc) gs]) p q (M + dlen ds2 k) (ds.length + k) (AllGone gs) wr) (fun _ iv _ => ds2.length - (intOf iv).toNat)
              case atStart => exact ⟨0, Nat.zero_le _, rfl, HB2.out⟩
              case round =>
                obtain ⟨k, hk, rfl, hO⟩ := hrel
                by_cases hlt : k < ds2.length
                · obtain ⟨n, M3, hf, hlk3, hM3, hQ, hh⟩ := hO
                  have hd := (HD2.out.keep (w' := wr) (fun b hb _ => hh.mod.block b hb (fun h => h))).at hlt
                  have hr0 := (HD2.out).at hlt
                  obtain ⟨b, off, bA, bc, rfl, hbb, e0, e1, e2, e3, e4, -, hwf⟩ := hd
                  obtain ⟨b', off', bA', bc', hA', hbb', -, -, -, -, e4', hr, -⟩ := hr0
                  have hcell : wr.cell? ⟨b', off' + k * 5 + 4, none⟩ = some (.slice bA' ds2[k].bytes.length bc') := hh.mod.cell e4' (fun h => h)
                  have hsame : (Value.slice bA ds2[k].bytes.length bc) = .slice bA' ds2[k].bytes.length bc' := by
                    have ha : (⟨b, off, none⟩ : Addr) = ⟨b', off', none⟩ := by injection hA'
                    injection ha with ha1 ha2
                    rw [← ha1, ← ha2] at hcell
                    rw [e4] at hcell
                    injection hcell
                  rw [← hsame] at hr
                  have hdl := dlen_succ ds2 k hlt
                  have hdm := dlen_mono ds2 (show k + 1 ≤ ds2.length from hlt)
                  generalize ds2[k] = d at *
                  have CD := hid (ldoes_held (h := hh.alloc (.cells #[.int .i64 d.op, .int .i64 d.id, .int .i64 d.a, .int .i64 d.b, .slice bA d.bytes.length bc] 33)) hf (by omega) (by omega) d hwf bA bc hr (by omega))
                  have HK := hid (show ∀ w', Held w w' (rNet p (n.call d) :: rRef (M3 + d.bytes.length) q (n.call d) :: [rInts (.slice gA gs.length gc) gs]) → BothAt w ([rInts (.slice gA gs.length gc) gs]) p q (M + dlen ds2 (k + 1)) (ds.length + (k + 1)) (AllGone gs) w' from
                    fun w' h => ⟨_, _, hf.call d, by have := (call_last n d).2; omega, by omega, (fun i hi => gone_call hf.ok (hQ i hi) d), h⟩)
                  clear hh hf hr hwf hcell hsame e4' hA' hbb' hbb hdl hdm hQ
                  go_wp2_with fail
                  refine CD.out.mono ?_
                  rintro e w3 ⟨rfl, g3⟩
                  have HP := hid (HK.out _ g3)
                  clear g3 CD HK
                  go_wp2_with fail
                  exact ⟨⟨k + 1, by omega, by simp, HP.out⟩, by show ds2.length - ((k : Int) + 1).toNat < ds2.length - (k : Int).toNat; omega⟩
                · have hke : k = ds2.length := by omega
                  subst hke
                  clear hlt
                  obtain ⟨n4, M4, hf4, hlk4, hM4, hQ4, hh⟩ := hO
                  have H4 := hid hh
                  have HF4 := hid (And.intro hf4 hQ4)
                  clear hh hf4 hQ4
                  go_wp2_with fail
                  go_loopw [97] (fun iv wr => ∃ k : Nat, k ≤ gs.length ∧ iv = .int .i64 k ∧ Held w wr (rNet p n4 :: rRef M4 q n4 :: [rInts (.slice gA gs.length gc) gs])) (fun iv _ => gs.length - (intOf iv).toNat)
                  case atStart => exact ⟨0, Nat.zero_le _, rfl, H4.out⟩
                  case round =>
                    obtain ⟨k, hk, rfl, hh⟩ := hrel
                    by_cases hlt : k < gs.length
                    · obtain ⟨g, cc, hvl, q1, q2, hcell⟩ := Held.own_at (Held.pull2 hh) (k := k) (u := .int .i64 gs[k]) (by unfold intsV; rw [List.getElem?_map, List.getElem?_eq_getElem hlt]; rfl)
                      injection hvl with hA e2 e3
                      subst hA e3
                      clear e2
                      have hmem : gs[k] ∈ gs := List.getElem_mem hlt
                      have hg := (HF4.out.2 gs[k] hmem).2
                      have hwf := HGR.out gs[k] hmem
                      clear hmem q1 q2
                      generalize gs[k] = id at *
                      have hcar : n4.carry id node 9 = (n4, [], 30) := by unfold Net.carry; rw [hg]
                      have hcut : n4.cut id = (n4, 30) := by unfold Net.cut; rw [hg]
                      have hdon : n4.done id node = true := by unfold Net.done; rw [hg]
                      have CC := hid (carry_held [] _ hh HF4.out.1.ok (by omega) id node 9 hwf)
                      rw [hcar] at CC
                      have HX := hid (And.intro hcut (And.intro hdon (And.intro hg hwf)))
                      clear hh hcar hcut hdon hg hwf
                      go_wp2_with fail
                      refine CC.out.mono ?_
                      rintro e w6 ⟨vo, rfl, g6⟩
                      have CU := hid (cut_held [_] _ g6 HF4.out.1.ok (by omega) id HX.out.2.2.2)
                      rw [HX.out.1] at CU
                      clear g6 CC hcell
                      go_wp2_with fail
                      refine CU.out.mono ?_
                      rintro e w7 ⟨rfl, g7⟩
                      have CN := hid (done_held [_] _ g7 HF4.out.1.ok (by omega) id node HX.out.2.2.2)
                      rw [HX.out.2.1] at CN
                      clear g7 CU
                      go_wp2_with fail
                      refine CN.out.mono ?_
                      rintro e w8 ⟨rfl, g8⟩
                      have CO := hid (conns_held [_] _ g8 HF4.out.1.ok)
                      clear g8 CN
                      go_wp2_with fail
                      refine CO.out.mono ?_
                      rintro e w9 ⟨vi, rfl, g9⟩
                      have CT := hid (contains_any (fun _ => True) w9 vi _ id (Held.ints (l1 := []) g9))
                      rw [not_ids HF4.out.1 HX.out.2.2.1] at CT
                      have G9 := hid (Held.drop0 (Held.drop0 g9))
                      clear g9 CO
                      go_wp2_with fail
                      refine CT.out.mono ?_
                      rintro e w10 ⟨rfl, rfl⟩
                      clear CT
                      go_wp2_with fail
                      go_roundw
                      case rel => exact ⟨k + 1, by omega, by go_num, G9.out⟩
                      case measure => simp [intOf]; omega
                    · go_wp2_with fail
                      refine (awake_any wr).mono ?_
                      rintro e w' ⟨rfl, hm⟩
                      go_wp2_with fail
                      go_ret
                      exact ⟨rfl, (hh.step hm).below⟩
end Go.Proofs.Ytcdeknbbeghljaa
