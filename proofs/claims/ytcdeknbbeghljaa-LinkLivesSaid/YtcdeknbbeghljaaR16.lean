/- alike: both nets tell the same; LinkLives: the walk. -/
import Derived.Test.YtcdeknbbeghljaaR14
namespace Go.Proofs.Ytcdeknbbeghljaa
open Go.RowKit
open Link

theorem ref_last {w0 w : World} {B : List Res} {M q : Nat} {n : Net} (h : Held w0 w (rRef M q n :: B)) : w.cell? ⟨q, 1, none⟩ = some (.int .i64 n.last) := by
  obtain ⟨vl, zs, -, h1⟩ := h.ropen
  exact (Held.blk0 h1).cell rfl
def asked (n : Net) : List Int := n.conns.map (·.1) ++ [0, -1, n.last + 1]
theorem asked_wf {n : Net} (hok : n.Ok) (hl : n.last ≤ 1000000) : ∀ i ∈ asked n, (Lit.int .i64 i).wf = true := by
  intro i hi
  have hlow := hok.low
  rcases List.mem_append.1 hi with h | h
  · obtain ⟨c, hc, rfl⟩ := List.mem_map.1 h
    have := hok.ids c hc
    exact wf_small (by omega) (by omega)
  · simp only [List.mem_cons, List.not_mem_nil, or_false] at h
    rcases h with rfl | rfl | rfl
    · exact wf_small (by omega) (by omega)
    · decide
    · exact wf_small (by omega) (by omega)
theorem ints_lit {w0 w : World} {B : List Res} (h : Held w0 w B) (l : List Int) (hl : l.length ≤ 1000) : Held w0 (w.alloc (.cells (intsV l).toArray 3)) (rInts (.slice (some ⟨w.heap.size, 0, none⟩) l.length l.length) l :: B) :=
  h.more (F := [w.heap.size]) (by
    refine own_ints ⟨?_, rfl⟩
    have := World.ownsRow_lit (base := 0) (e := 3) (size := 1) w (intsV l).toArray l.length (Nat.zero_le _) (by unfold maxLen; omega) (by simp [intsV])
    simpa using this) ⟨(Mod.refl _ w).alloc _, by simp, fun b hb => .inr (by simp at hb; omega)⟩

set_option maxRecDepth 100000 in
set_option maxHeartbeats 4000000 in
theorem alike_held {w0 w : World} {B : List Res} {M p q : Nat} {n : Net} (h : Held w0 w (rNet p n :: rRef M q n :: B)) (hf : n.Fine) (hl : n.last ≤ 1000000) (hM : M ≤ 1000000000) :
    Calls Try.prog 28 #[.pointer (some ⟨p, 0, none⟩), .pointer (some ⟨q, 0, none⟩)] w fun e w' => e = .returned (.bool true) ∧ Held w0 w' (rNet p n :: rRef M q n :: B) := by
  have hfew := hf.ok.few
  have hlow := hf.ok.low
  have C1 := hid (rconns_held (Held.pull1 h) (by omega))
  have HF := hid hf
  have HWF := hid (asked_wf hf.ok hl)
  clear h hf
  go_enter Try.func28, Try.ntmps28
  go_wp2_with fail
  refine C1.out.mono ?_
  rintro e w1 ⟨vl, rfl, g1⟩
  have C2 := hid (conns_held [_, _] _ g1 HF.out.ok)
  rw [HF.out.sorted] at C2
  clear g1 C1
  go_wp2_with fail
  refine C2.out.mono ?_
  rintro e w2 ⟨vi, rfl, g2⟩
  have C3 := hid (equal_ints (fun _ => True) (fun _ => True) w2 vi vl _ (Held.ints (l1 := []) g2) (Held.ints (l1 := [_]) g2))
  have g3 : Held w0 w2 (rInts vl (n.conns.map (·.1)) :: rRef M q n :: rNet p n :: B) := Held.drop0 g2
  obtain ⟨lA, lc, rfl, ll1, ll2⟩ := Held.own_form0 g3
  rw [intsV_length, List.length_map] at ll1
  have hil : (intsV (n.conns.map (·.1))).length = n.conns.length := by rw [intsV_length, List.length_map]
  rw [hil] at g3 C3 ⊢
  have HIL := hid hil
  have HG3 := hid g3
  clear g2 g3 C2 hil
  go_wp2_with fail
  refine C3.out.mono ?_
  rintro e w3 ⟨rfl, m, rfl⟩
  clear C3
  have e1 : (w2.drewN m).cell? ⟨q, 1, none⟩ = some (.int .i64 n.last) := ref_last (Held.pull1 (HG3.out.drewN m))
  have hw1 : IntKind.i64.wrap (n.last + 1) = n.last + 1 := by rw [IntKind.wrap_i64]; omega
  obtain ⟨iT, iz, is, ib, iy⟩ := info_parts Try.infoInt
  have HI := hid (And.intro iz (And.intro is (And.intro ib iy)))
  have HRD := hid (Rd.newRow (w2.drewN m) 3 [.int .i64 0, .int .i64 (-1), .int .i64 (n.last + 1)] (0, 0) (by simp [maxLen]))
  have HG := hid ((HG3.out.drewN m).alloc (.cells #[.int .i64 0, .int .i64 (-1), .int .i64 (n.last + 1)] 3))
  clear iz is ib iy
  generalize w2.drewN m = w4 at *
  go_wp2_with (at_builtin; refine wpList_append_held (w0 := w0) [] _ rfl _ _ 44 rfl 3 iT (.int .i64 0) 8 Try.underlying44 HI.out.1 HI.out.2.1 HI.out.2.2.1 HI.out.2.2.2 rfl (.slice lA n.conns.length lc) (intsV (n.conns.map fun c : Int × Conn => c.1)) rfl HG.out _ (.slice (some ⟨w4.heap.size, 0, none⟩) 3 3) [.int .i64 0, .int .i64 (-1), .int .i64 (n.last + 1)] rfl HRD.out (by intro x hx; simp only [List.mem_cons, List.not_mem_nil, or_false] at hx; rcases hx with rfl | rfl | rfl <;> rfl) (by rw [HIL.out]; simp; omega) (by rw [HIL.out]; unfold maxLen; simp; omega) ?c1)
  case c1 =>
  intro A' c' w5 p1 p2 g5
  simp only [HIL.out, List.length_cons, List.length_nil, Nat.zero_add] at g5 p1 ⊢
  have H5 := hid (show Held w0 w5 (rInts (.slice A' (n.conns.length + 3) c') (asked n) :: rRef M q n :: rNet p n :: B) from by
    unfold rInts asked
    rw [intsV_append]
    exact g5)
  have HLA := hid (show (asked n).length = n.conns.length + 3 by unfold asked; simp)
  clear g5 HG HRD HI e1 hw1
  generalize asked n = L at *
  generalize n.conns.length = nl at *
  go_wp2_with fail
  go_loopw [36] (fun iv wr => ∃ k : Nat, k ≤ nl + 3 ∧ iv = .int .i64 k ∧ Held w0 wr (rInts (.slice A' (nl + 3) c') L :: rRef M q n :: rNet p n :: B)) (fun iv _ => nl + 3 - (intOf iv).toNat)
  case atStart => exact ⟨0, Nat.zero_le _, rfl, H5.out⟩
  case round =>
    obtain ⟨k, hk, rfl, hh⟩ := hrel
    by_cases hlt : k < nl + 3
    · have hkl : k < L.length := by rw [HLA.out]; exact hlt
      obtain ⟨g, cc, hvl, q1, q2, hcell⟩ := Held.own_at hh (k := k) (u := .int .i64 L[k]) (by unfold intsV; rw [List.getElem?_map, List.getElem?_eq_getElem hkl]; rfl)
      injection hvl with hA e2 e3
      subst hA e3
      clear e2
      have hwf := HWF.out L[k] (List.getElem_mem hkl)
      generalize L[k] = id at *
      clear hkl q1 q2
      have CE := hid (ends_held [_, _] _ hh HF.out.ok (by omega) id hwf)
      have HWI := hid hwf
      clear hh hwf
      go_wp2_with fail
      refine CE.out.mono ?_
      rintro e w6 ⟨rfl, g6⟩
      have CF := hid (rends_held (Held.pull1 g6) id)
      have HG6 := hid g6
      generalize hen : n.ends id = en at *
      obtain ⟨ec, ed, ee⟩ := en
      clear g6 CE hcell hen
      go_wp2_with fail
      refine CF.out.mono ?_
      rintro e w7 ⟨rfl, m2, rfl⟩
      clear CF
      have HI2 := hid (ints_lit (HG6.out.drewN m2) [ec, ed, 15, -1] (by simp))
      clear HG6
      generalize w6.drewN m2 = w8 at *
      have HI3 := hid (show Held w0 (w8.alloc (.cells #[.int .i64 ec, .int .i64 ed, .int .i64 15, .int .i64 (-1)] 3)) (rInts (.slice (some ⟨w8.heap.size, 0, none⟩) 4 4) [ec, ed, 15, -1] :: rInts (.slice (some ⟨g, 0, none⟩) (nl + 3) c') L :: rRef M q n :: rNet p n :: B) from HI2.out)
      clear HI2
      go_wp2_with fail
      go_loopw [71] (fun iv wr => ∃ j : Nat, j ≤ 4 ∧ iv = .int .i64 j ∧ Held w0 wr (rInts (.slice (some ⟨w8.heap.size, 0, none⟩) 4 4) [ec, ed, 15, -1] :: rInts (.slice (some ⟨g, 0, none⟩) (nl + 3) c') L :: rRef M q n :: rNet p n :: B)) (fun iv _ => 4 - (intOf iv).toNat)
      case atStart => exact ⟨0, Nat.zero_le _, rfl, HI3.out⟩
      case round =>
        obtain ⟨j, hj, rfl, hh⟩ := hrel
        by_cases hjt : j < 4
        · have hjl : j < ([ec, ed, 15, -1] : List Int).length := hjt
          obtain ⟨g', cc', hvl', q1', q2', hcell'⟩ := Held.own_at hh (k := j) (u := .int .i64 ([ec, ed, 15, -1] : List Int)[j]) (by unfold intsV; rw [List.getElem?_map, List.getElem?_eq_getElem hjl]; rfl)
          injection hvl' with hA' e2' e3'
          injection hA' with hA'
          injection hA' with hA'
          subst hA'
          clear e2' e3' q1' q2'
          generalize ([ec, ed, 15, -1] : List Int)[j] = to_ at *
          have CW := hid (waiting_held [_, _, _] _ hh HF.out.ok (by omega) id to_ HWI.out)
          have CX := hid (rwaiting_held (Held.pull2 hh) (by omega) id to_)
          have HG9 := hid hh
          clear hh
          generalize n.waiting id to_ = wt at *
          obtain ⟨wi, we⟩ := wt
          go_wp2_with fail
          refine CW.out.mono ?_
          rintro e w9 ⟨rfl, rfl⟩
          go_wp2_with fail
          refine CX.out.mono ?_
          rintro e w9 ⟨rfl, m3, rfl⟩
          have CD := hid (done_held [_, _, _] _ (HG9.out.drewN m3) HF.out.ok (by omega) id to_ HWI.out)
          clear CW CX HG9 hcell'
          go_wp2_with fail
          refine CD.out.mono ?_
          rintro e w10 ⟨rfl, g10⟩
          have CN := hid (rdone_held (Held.pull2 g10) (by omega) id to_)
          have HG10 := hid g10
          clear g10 CD
          generalize n.done id to_ = dn at *
          go_wp2_with fail
          refine CN.out.mono ?_
          rintro e w11 ⟨rfl, m4, rfl⟩
          clear CN
          go_wp2_with fail
          go_roundw
          case rel => exact ⟨j + 1, by omega, by go_num, HG10.out.drewN m4⟩
          case measure => simp [intOf]; omega
        · have hje : j = 4 := by omega
          subst hje
          have HX := hid (Held.drop0 hh)
          clear hh
          go_wp2_with fail
          go_roundw
          case rel => exact ⟨k + 1, by omega, by go_num, HX.out⟩
          case measure => simp [intOf]; omega
    · have HX := hid (Held.pull1 (Held.drop0 hh))
      clear hh
      go_wp2_with fail
      go_ret
      exact ⟨rfl, HX.out⟩

set_option maxRecDepth 100000 in
set_option maxHeartbeats 4000000 in
theorem lives_walk (w : World) (v : Value) (ds : List Do) (h : Dos w.heap.size w v ds) :
    Calls Try.prog 8 #[v] w fun e w' => e = .returned (.bool true) ∧ Below w.heap.size w w' := by
  obtain ⟨A, c, rfl, hc, hm⟩ := h.form
  have HW := hid (awake_any w)
  have HS := hid (short_any w.heap.size w _ ds h)
  have HD := hid h
  have H0 := hid (Held.begin w)
  clear h
  go_enter Try.func8, Try.ntmps8
  go_wp2_with fail
  refine HS.out.mono ?_
  rintro e w' ⟨r, rfl, hr, rfl⟩
  cases r with
  | false =>
    clear hr
    go_wp2_with fail
    refine HW.out.mono ?_
    rintro e w' ⟨rfl, hm⟩
    go_wp2_with fail
    go_ret
    exact ⟨rfl, hm.below (Nat.le_refl _) (fun _ _ h => h)⟩
  | true =>
    obtain ⟨hlen, hbytes⟩ := hr rfl
    clear hr
    go_wp2_with fail
    refine (new_held H0.out).mono ?_
    rintro e w1 ⟨p, rfl, g1⟩
    have g2 := Held.pull1 (ref_new g1)
    generalize hq : w1.heap.size = q at g2
    have HB := hid (show BothAt w [] p q (0 + dlen ds 0) (0 + 0) (fun _ => True) (w1.alloc (.cells #[.slice none 0 0, .int .i64 0] 58)) from ⟨_, _, fine_empty, by simp [Net.empty], Nat.zero_le _, trivial, g2⟩)
    clear g1 g2
    go_wp2_with fail
    clear hq
    go_loopw [6, 16] (fun _ iv wr => ∃ k : Nat, k ≤ ds.length ∧ iv = .int .i64 k ∧ BothAt w ([]) p q (0 + dlen ds k) (0 + k) (fun _ => True) wr) (fun _ iv _ => ds.length - (intOf iv).toNat)
    case atStart => exact ⟨0, Nat.zero_le _, rfl, HB.out⟩
    case round =>
      obtain ⟨k, hk, rfl, hO⟩ := hrel
      by_cases hlt : k < ds.length
      · obtain ⟨n, M, hf, hlk, hM, hQ, hh⟩ := hO
        have hd := (HD.out.keep (w' := wr) (fun b hb _ => hh.mod.block b hb (fun h => h))).at hlt
        have hr0 := (HD.out).at hlt
        obtain ⟨b, off, bA, bc, rfl, hbb, e0, e1, e2, e3, e4, -, hwf⟩ := hd
        obtain ⟨b', off', bA', bc', hA', hbb', -, -, -, -, e4', hr, -⟩ := hr0
        have hcell : wr.cell? ⟨b', off' + k * 5 + 4, none⟩ = some (.slice bA' ds[k].bytes.length bc') := hh.mod.cell e4' (fun h => h)
        have hsame : (Value.slice bA ds[k].bytes.length bc) = .slice bA' ds[k].bytes.length bc' := by
          have ha : (⟨b, off, none⟩ : Addr) = ⟨b', off', none⟩ := by injection hA'
          injection ha with ha1 ha2
          rw [← ha1, ← ha2] at hcell
          rw [e4] at hcell
          injection hcell
        rw [← hsame] at hr
        have hdl := dlen_succ ds k hlt
        have hdm := dlen_mono ds (show k + 1 ≤ ds.length from hlt)
        generalize ds[k] = d at *
        have CD := hid (ldoes_held (h := hh.alloc (.cells #[.int .i64 d.op, .int .i64 d.id, .int .i64 d.a, .int .i64 d.b, .slice bA d.bytes.length bc] 33)) hf (by omega) (by omega) d hwf bA bc hr (by omega))
        have HK := hid (show ∀ w', Held w w' (rNet p (n.call d) :: rRef (M + d.bytes.length) q (n.call d) :: []) → BothAt w ([]) p q (0 + dlen ds (k + 1)) (0 + (k + 1)) (fun _ => True) w' from
          fun w' h => ⟨_, _, hf.call d, by have := (call_last n d).2; omega, by omega, trivial, h⟩)
        clear hh hf hr hwf hcell hsame e4' hA' hbb' hbb hdl hdm hQ
        go_wp2_with fail
        refine CD.out.mono ?_
        rintro e w3 ⟨rfl, g3⟩
        have HP := hid (HK.out _ g3)
        clear g3 CD HK
        obtain ⟨n5, M5, hf5, hlk5, hM5, -, hh5⟩ := HP.out
        have CA := hid (alike_held hh5 hf5 (by omega) (by have := dlen_mono ds (show k + 1 ≤ ds.length from hlt); omega))
        have HY := hid (fun w' (h : Held w w' (rNet p n5 :: rRef M5 q n5 :: [])) => show BothAt w [] p q (0 + dlen ds (k + 1)) (0 + (k + 1)) (fun _ => True) w' from ⟨n5, M5, hf5, hlk5, hM5, trivial, h⟩)
        clear hh5 hf5 hlk5 hM5 HP
        go_wp2_with fail
        refine CA.out.mono ?_
        rintro e w5 ⟨rfl, g5⟩
        have HZ := hid (HY.out _ g5)
        clear g5 CA HY
        go_wp2_with fail
        exact ⟨⟨k + 1, by omega, by simp, HZ.out⟩, by show ds.length - ((k : Int) + 1).toNat < ds.length - (k : Int).toNat; omega⟩
      · have hke : k = ds.length := by omega
        subst hke
        obtain ⟨n, M, -, -, -, -, hh⟩ := hO
        go_wp2_with fail
        refine (awake_any wr).mono ?_
        rintro e w' ⟨rfl, hm⟩
        go_wp2_with fail
        go_ret
        exact ⟨rfl, (hh.step hm).below⟩
end Go.Proofs.Ytcdeknbbeghljaa
