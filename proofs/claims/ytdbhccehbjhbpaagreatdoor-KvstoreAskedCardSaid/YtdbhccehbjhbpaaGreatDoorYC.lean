/- kvstore: a law. (Several texts in one file, by mz.py.) -/
import Derived.Test.YtdbhccehbjhbpaaGreatDoorYB
import Derived.Deep.DeepCutAuto
import Derived.Deep.RegionLaw

/- the reference, disk: Write. -/
namespace Go.Proofs.YtdbhccehbjhbpaaGreatDoor
open Go.RowKit

set_option maxRecDepth 100000 in
set_option maxHeartbeats 1000000 in
theorem rwrite_held {w0 w : World} {B : List Res} {y : Nat} {vL vH vB : Value} {al : List RA} {hs : List RF} {ps : List (Value × List UInt8)} {bs : List UInt8} (h : Held w0 w (rBlk y 97 (rdCells 16777216 vL vH) :: rAl vL al :: rBig bytesLoc ps :: rFl vH hs :: rBytes vB bs :: B)) (ha : ActsOk ps al) (s : List UInt8) (hm : Disk.may s = true) (hh : holdOf hs s = total al s) (hl : hs.length ≤ 4000) (hu : heldSum hs + bs.length ≤ 16777216) (hf : al.length + 1 ≤ 1000) :
    Calls Tryz.prog 94 #[.pointer (some ⟨y, 0, none⟩), sv s, vB] w fun e w' => ∃ vL' vH' ps' A c, e = .returned (.int .i64 0) ∧ (∀ q ∈ ps, q ∈ ps') ∧ inBag ps' A bs.length c ∧ Held w0 w' (rBlk y 97 (rdCells 16777216 vL' vH') :: rAl vL' (al ++ [⟨s, total al s, A, bs.length, c, false⟩]) :: rBig bytesLoc ps' :: rFl vH' (fput hs ⟨s, none, 0, 0, total al s + bs.length⟩) :: rBytes vB bs :: B) := by
  obtain ⟨LA, Lc, rfl, hLc, hLm⟩ := h.pull1.al_form
  obtain ⟨HA, Hc, rfl, hHc, hHm⟩ := h.pull3.fl_form
  obtain ⟨BA, Bc, rfl, hBc, hBm⟩ := Held.form (l1 := [_, _, _, _]) h
  have HL := hid (rlook_held h ha s hm)
  have HACT := hid ha
  have HX := hid (fun w1 (B1 : List Res) (g1 : Held w0 w1 (rFl (.slice HA hs.length Hc) hs :: B1)) => rfind_any w1 _ hs (Held.rows_rd g1) s)
  have HU := hid (fun w1 vL1 B1 (g1 : Held w0 w1 (rBlk y 97 (rdCells 16777216 vL1 (.slice HA hs.length Hc)) :: rFl (.slice HA hs.length Hc) hs :: B1)) => rused_held g1 (by omega))
  have HM := hid hm
  obtain ⟨tt, htt⟩ : ∃ tt, tt = total al s := ⟨_, rfl⟩
  have HTT := hid htt
  obtain ⟨bl, hbl⟩ : ∃ bl, bl = bs.length := ⟨_, rfl⟩
  obtain ⟨hn, hhn⟩ : ∃ hn, hn = hs.length := ⟨_, rfl⟩
  obtain ⟨us, hus⟩ : ∃ us, us = heldSum hs := ⟨_, rfl⟩
  have HN := hid (And.intro hbl (And.intro hhn hus))
  rw [← htt] at HL hh ⊢
  have HHH := hid hh
  have H0 := hid h
  rw [← hhn] at hHc HX HU hl H0
  rw [← hus] at hu HU
  rw [← hbl] at hu hBc H0 ⊢
  unfold sv at HL HX ⊢
  clear h ha hm hh hhn hus hbl htt
  rw [← HN.out.2.1] at HL
  go_enter Tryz.func94, Tryz.ntmps94
  go_wp2_with fail
  refine HL.out.mono ?_
  rintro e w1 ⟨A0, l0, c0, z, ps1, rfl, hl0, hz, hsub, g1⟩
  have HSUB := hid hsub
  have HACT1 := hid (HACT.out.up HSUB.out)
  rw [← HN.out.1] at g1
  have G1 := hid g1
  have c2 : w1.cell? ⟨y, 2, none⟩ = some (.slice HA hn Hc) := g1.blk0.cell rfl
  have c1 : w1.cell? ⟨y, 1, none⟩ = some (.slice LA al.length Lc) := g1.blk0.cell rfl
  have c0' : w1.cell? ⟨y, 0, none⟩ = some (.int .i64 16777216) := g1.blk0.cell rfl
  subst hl0
  have HZ := hid hz
  clear hsub g1 HL HACT hz
  have hb2 : decide ((16777216 : Int) < (bl : Int)) = false := by rw [decide_eq_false_iff_not]; omega
  have hlf1 : al.length < 4096 := by omega
  have hz2 : z = 20 ∨ z = 0 := by rcases HZ.out with h | h; exact .inr h; exact .inl h.1
  have hgt : decide ((16777216 : Int) < IntKind.i64.wrap (IntKind.i64.wrap ((us : Int) - l0) + max (l0 : Int) (IntKind.i64.wrap ((l0 : Int) + bl)))) = false := by
    have h50 := HACT1.out.small s
    rw [← HTT.out] at h50
    have hw1 : IntKind.i64.wrap ((us : Int) - l0) = us - l0 := by rw [IntKind.wrap_i64]; omega
    have hw2 : IntKind.i64.wrap ((l0 : Int) + bl) = l0 + bl := by rw [IntKind.wrap_i64]; omega
    have hw3 : (us : Int) - l0 + max (l0 : Int) ((l0 : Int) + bl) = (us : Int) + bl := by omega
    have hw4 : IntKind.i64.wrap ((us : Int) + bl) = (us : Int) + bl := by rw [IntKind.wrap_i64]; omega
    rw [hw1, hw2, hw3, hw4, decide_eq_false_iff_not]
    omega
  have HGT := hid hgt
  clear hgt
  clear HZ
  have hz6 : (z == 6) = false := by rw [beq_eq_false_iff_ne]; rcases hz2 with h | h <;> (rw [h]; decide)
  go_upto_region 4 with (fail)
  go_cut [27] (fun b wx => b = .bool false ∧ ∃ ps2, (∀ q ∈ ps1, q ∈ ps2) ∧ Held w0 wx (rBlk y 97 (rdCells 16777216 (.slice LA al.length Lc) (.slice HA hn Hc)) :: rAl (.slice LA al.length Lc) al :: rBig bytesLoc ps2 :: rFl (.slice HA hn Hc) hs :: rBytes (.slice BA bl Bc) bs :: B))
  case first =>
    rcases hz2 with rfl | rfl
    · have HFI := hid (rfiles_held G1.out HACT1.out)
      clear c0' c1 c2
      go_wp2_with fail
      refine HFI.out.mono ?_
      rintro e w2 ⟨v', fs, ps2, rfl, hfo, hsub2, g2⟩
      obtain ⟨A, c, rfl, hc, hm2⟩ := g2.fl_form
      have hfd : decide ((4096 : Int) ≤ (fs.length : Int)) = false := by rw [decide_eq_false_iff_not]; have := hfo.few; omega
      have G2 := hid g2.drop0
      have HS2 := hid hsub2
      clear g2 hc hm2 HFI hsub2
      go_wp2_with fail
      go_meet
      case rel => exact ⟨rfl, ps2, HS2.out, G2.out⟩
    · go_wp2_with fail
      go_meet
      case rel => exact ⟨rfl, ps1, fun q h => h, G1.out⟩
  case rest =>
    obtain ⟨rfl, ps2, hsub2, g2⟩ := hcut
    have G2 := hid g2
    have HS2 := hid (fun q h => hsub2 q (HSUB.out q h))
    have HACT2 := hid (HACT1.out.up hsub2)
    clear g2 hsub2 c0' c1 c2 hz2 hz6 H0 G1
    have c2 : wc.cell? ⟨y, 2, none⟩ = some (.slice HA hn Hc) := G2.out.blk0.cell rfl
    go_wp2_with fail
    refine (HX.out _ _ G2.out.pull3).mono ?_
    rintro e w2 ⟨zf, hzf, rfl, rfl⟩
    have HZF := hid hzf
    clear hzf
    go_upto_if 35 with (fail)
    go_cut [9] (fun nv wx => nv = .int .i64 l0 ∧ wx = w2)
    case first =>
      rcases HZF.out with ⟨i, hi, rfl, hie, hine⟩ | ⟨rfl, hno⟩
      · obtain ⟨b, off, rfl, d0, d1, d2⟩ := (Held.rows_rd G2.out.pull3).rf hi
        have hho := holdOf_some hi hie hine
        rw [HHH.out] at hho
        have hi1 : (i : Int) < (hn : Int) := by rw [HN.out.2.1]; omega
        have hi0 : (0 : Int) ≤ (i : Int) := by omega
        generalize hs[i] = f at *
        obtain ⟨fn, fA, fl, fc, fz⟩ := f
        dsimp only at d0 d1 d2 hho
        subst hho
        clear hi hie hine HZF
        go_wp2_with fail
        go_meet
        case rel => exact ⟨rfl, rfl⟩
      · have hh0 : l0 = 0 := by rw [← HHH.out]; exact holdOf_none hno
        clear hno HZF
        have HH0 := hid hh0
        clear hh0
        go_wp2_with fail
        go_meet
        case rel => exact ⟨by rw [HH0.out]; rfl, rfl⟩
    case rest =>
      obtain ⟨rfl, rfl⟩ := hcut
      have c0' : wc.cell? ⟨y, 0, none⟩ = some (.int .i64 16777216) := G2.out.blk0.cell rfl
      have hgt := HGT.out
      have HBL := hid (And.intro HN.out.1 (show bl ≤ 1000000000000 by omega))
      clear HZF
      go_upto_region 10 with (fail)
      go_cut [65] (fun b wx => b = .bool false ∧ Held w0 wx (rBlk y 97 (rdCells 16777216 (.slice LA al.length Lc) (.slice HA hn Hc)) :: rFl (.slice HA hn Hc) hs :: rAl (.slice LA al.length Lc) al :: rBig bytesLoc ps2 :: rBytes (.slice BA bl Bc) bs :: B))
      case first =>
        go_region_held3 (fun w' => w'.cell? ⟨y, 0, none⟩ = some (.int .i64 16777216))
          (first | exact c0' | exact t0)
          (first
            | (go_at_call 146; refine (HU.out _ _ _ G2.out.drew.pull3.pull1).mono ?_; rintro e w3 ⟨rfl, g3⟩; have t0 := g3.blk0.cell (i := 0) rfl; have G3 := hid g3; clear g3)
            | fail)
        all_goals (go_wp2_with fail)
        all_goals go_meet
        all_goals
          case rel => exact ⟨rfl, by first | exact G3.out | exact G3.out.drew⟩
      case rest =>
        obtain ⟨rfl, g3⟩ := hcut
        have G3 := hid g3
        have t1 : wc.cell? ⟨y, 1, none⟩ = some (.slice LA al.length Lc) := g3.blk0.cell (i := 1) rfl
        clear g3 c0' hgt
        go_upto_region 12 with (fail)
        go_cut [] (fun wx => ∃ vL2 A' c', Held w0 wx (rBlk y 97 (rdCells 16777216 vL2 (.slice HA hn Hc)) :: rAl vL2 (al ++ [⟨s, l0, A', bl, c', false⟩]) :: rBig bytesLoc ((.slice A' bl c', bs) :: ps2) :: rFl (.slice HA hn Hc) hs :: rBytes (.slice BA bl Bc) bs :: B))
        case first =>
          have HR := hid (show Held w0 ((wc.alloc (.cells #[] 5)).drew) (rBytes (.slice (some ⟨wc.heap.size, 0, none⟩) 0 0) [] :: _) from (G3.out.built [] (by decide)).drew)
          have HR2 := hid (fun w4 (m : Mod (fun _ => False) wc w4) => show Rd (fun _ => True) w4 (.slice BA bl Bc) (bytesV bs) from by rw [HBL.out.1]; exact Held.bytes (l1 := [_, _, _, _]) (by have := G3.out.step m; rw [HBL.out.1] at this; exact this))
          have t1b : ((wc.alloc (.cells #[] 5)).drew).cell? ⟨y, 1, none⟩ = some (.slice LA al.length Lc) := HR.out.pull1.blk0.cell (i := 1) rfl
          go_region_law (first
            | (refine step_app rfl _ _ rfl _ rfl HR.out (fun _ => True) _ bs bl HBL.out.1 rfl (HR2.out _ (by repeat (first | exact Mod.refl _ _ | refine Mod.alloc ?_ _ | refine Mod.drew ?_))) HBL.out.2 ?_; intro A' c' w4 g4; have u1 := g4.pull1.blk0.cell (i := 1) rfl; have u2 := (g4.alloc (.cells #[.int .i64 0, .string ⟨s.toArray⟩, .int .i64 l0, .slice A' bl c', .bool false] 201)).pull1.blk0.cell (i := 1) rfl; have G4 := hid g4; clear g4)
            | (refine step_act rfl _ _ rfl _ al _ rfl rfl (G4.out.pull3.step (by repeat (first | exact Mod.refl _ _ | refine Mod.alloc ?_ _ | refine Mod.drew ?_))) _ _ ⟨s, l0, A', bl, c', false⟩ rfl (World.news_of_block (heap_alloc_new w4 _)) (by omega) ?_; intro A2 c2 w5 g5; have v1 := g5.pull2.blk0.cell (i := 1) rfl; have f1 := g5.pull2.blk0.frozen 1; have G5 := hid g5; clear g5))
          all_goals
            have G6 := hid (show Held w0 (w5.setCell ⟨y, 1, none⟩ (.slice A2 (al.length + 1) c2)) (rBlk y 97 (rdCells 16777216 (.slice A2 (al.length + 1) c2) (.slice HA hn Hc)) :: _) from Held.store (l1 := []) G5.out.pull2 1 (.slice A2 (al.length + 1) c2))
          all_goals (go_wp2_with fail)
          all_goals go_meet
          all_goals
            case rel => exact ⟨_, A', c', (Held.big_cons (l1 := []) bytesLoc (x := (.slice A' bl c', bs)) G6.out.pull4.pull3).pull2.pull2⟩
        case rest =>
          obtain ⟨vL2, A', c', g6⟩ := hcut
          have htl : total (al ++ [⟨s, l0, A', bl, c', false⟩]) s = l0 + bl := by rw [total_snoc]; dsimp only; rw [if_pos rfl, ← HTT.out]
          have HAC := hid (HACT2.out.snoc (ps' := (.slice A' bl c', bs) :: ps2) (fun q h => List.mem_cons_of_mem _ h) ⟨s, l0, A', bl, c', false⟩ ⟨bs, List.mem_cons_self, HBL.out.1.symm⟩ HTT.out hf (by dsimp only; rw [← HTT.out]; have h1 := heldSum_fwo hs s; rw [HHH.out, ← HN.out.2.2] at h1; omega))
          have HHO := hid (rhold_held g6 HAC.out s HM.out (by rw [htl, HHH.out]; omega) (by have := HN.out.2.1; omega))
          rw [htl] at HHO
          unfold sv at HHO
          clear g6 htl
          go_wp2_with fail
          refine HHO.out.mono ?_
          rintro e w6 ⟨vH', ps3, rfl, hs3, g7⟩
          have G7 := hid g7
          have HS3 := hid hs3
          clear g7 hs3 HHO
          go_wp2_with fail
          go_ret
          first
            | exact ⟨_, vH', ps3, A', c', rfl, fun q hq => HS3.out q (List.mem_cons_of_mem _ (HS2.out q hq)), ⟨bs, HS3.out _ List.mem_cons_self, HBL.out.1.symm⟩, G7.out⟩
            | exact ⟨_, vH', rfl, ps3, fun a b hq => HS3.out (a, b) (List.mem_cons_of_mem _ (HS2.out (a, b) hq)), A', c', ⟨bs, HS3.out _ List.mem_cons_self, HBL.out.1.symm⟩, G7.out⟩
            | (trace_state; fail)
end Go.Proofs.YtdbhccehbjhbpaaGreatDoor

/- the reference log: Open of an empty disk. -/
namespace Go.Proofs.YtdbhccehbjhbpaaGreatDoor
open Go.RowKit

set_option maxRecDepth 100000 in
set_option maxHeartbeats 1000000 in
theorem ropen5_none {w0 w : World} {B : List Res} {y sp : Nat} (h : Held w0 w (rBlk y 97 (rdCells sp (.slice none 0 0) (.slice none 0 0)) :: rAl (.slice none 0 0) [] :: rBig bytesLoc [] :: B)) :
    Calls Tryz.prog 43 #[.pointer (some ⟨y, 0, none⟩)] w fun e w' => ∃ g ps, e = .returned (.tuple #[.pointer (some ⟨g, 0, none⟩), .int .i64 0]) ∧ Held w0 w' (rBlk y 97 (rdCells sp (.slice none 0 0) (.slice none 0 0)) :: rAl (.slice none 0 0) [] :: rBig bytesLoc ps :: rBlk g 106 (rlCells y (.slice none 0 0) (.slice none 0 0) 1) :: B) := by
  have h1 := h.block 106 (rlCells y (.slice none 0 0) (.slice none 0 0) 1)
  have HL := hid (rlist_none h1.pull3.pull3.pull3)
  unfold rlCells at HL ⊢
  clear h h1
  go_enter Tryz.func43, Tryz.ntmps43
  go_wp2_with fail
  refine HL.out.mono ?_
  rintro e w1 ⟨rfl, ps, g1⟩
  have HF := hid (rflush_none g1)
  clear g1 HL
  go_wp2_with fail
  refine wp_loop_rounds 1 ?_
  rw [rounds_succ]
  go_wp2_with fail
  refine wp_loop_rounds 1 ?_
  rw [rounds_succ]
  go_wp2_with fail
  refine wp_loop_rounds 1 ?_
  rw [rounds_succ]
  go_wp2_with fail
  refine HF.out.mono ?_
  rintro e w2 ⟨rfl, ps2, g2⟩
  have G2 := hid g2
  clear g2 HF
  go_wp2_with fail
  go_ret2
  exact ⟨_, ps2, rfl, G2.out⟩
end Go.Proofs.YtdbhccehbjhbpaaGreatDoor

/- the reference log: Append. -/
namespace Go.Proofs.YtdbhccehbjhbpaaGreatDoor
open Go.RowKit
open Slog (nameB)

theorem Tryz.infoInt : (Tryz.prog.info? 3).map (fun i => (i.zero, i.size, i.bytes)) = some (some (.int .i64 0), 1, 8) := by kernel_rfl
/-- append of one number. -/
theorem wpl_int {w0 w : World} {ops : Array Oper} {rest : List Oper} {o : Oper} {a : Act} {Q : Exit → Act → World → Prop} {B : List Res} (hgd : o.guard = none) (s x : Operand)
    (ho : o.op = .call { callee := .builtin .append, args := #[s, x], argTypes := #[103, 103] })
    (v : Value) (l : List Value) (hs : a.eval s = v) (hh : Held w0 w (rOwn 3 v l :: B)) (b c : Nat) (z : Int) (hx : a.eval x = .slice (some ⟨b, 0, none⟩) 1 c) (hc : 1 ≤ c ∧ c ≤ 1000) (hcell : w.cell? ⟨b, 0, none⟩ = some (.int .i64 z)) (n : Nat) (hn : l.length = n) (hb : n ≤ 1000000)
    (h : ∀ A c w', Held w0 w' (rOwn 3 (.slice A (n + 1) c) (l ++ [.int .i64 z]) :: B) → wpList Tryz.prog ops Q rest (a.put o.dst (.slice A (n + 1) c)) w') : wpList Tryz.prog ops Q (o :: rest) a w := by
  subst hn
  obtain ⟨i0, hi, hz0, hz1, hz2⟩ := info_parts Tryz.infoInt
  refine wpList_append_held [] B hgd s x 103 ho 3 i0 (.int .i64 0) 8 Tryz.underlying103 hi hz0 hz1 hz2 rfl v l hs hh (fun _ => True) _ [.int .i64 z] hx ⟨_, c, rfl, by simpa using hc.1, by unfold maxLen; omega, fun _ => ⟨b, 0, rfl, trivial, fun k u hu => by
    cases k with
    | zero => simpa using hu ▸ hcell
    | succ k => simp at hu⟩⟩ (by intro y hy; rw [List.mem_singleton.1 hy]; rfl) ?_ ?_ ?_
  · simp only [List.length_singleton]; omega
  · simp only [List.length_singleton]; unfold maxLen; omega
  · intro A c w' _ _ g
    exact h A c w' g
/-- append of one record, in a region that draws. -/
theorem step_rec {w0 w : World} {ops : Array Oper} {o : Oper} {a : Act} {K : Act → World → Prop} {Q : Exit → Act → World → Prop} {E : Prop} {B : List Res} (hgd : o.guard = none) (s x : Operand)
    (ho : o.op = .call { callee := .builtin .append, args := #[s, x], argTypes := #[104, 104] })
    (v : Value) (l : List Value) (hs : a.eval s = v) (hh : Held w0 w (rOwn 87 v l :: B)) (b c : Nat) (A1 : Option Addr) (n1 c1 : Nat) (hx : a.eval x = .slice (some ⟨b, 0, none⟩) 1 c) (hc : 1 ≤ c ∧ c ≤ 1000) (hcell : w.cell? ⟨b, 0, none⟩ = some (.slice A1 n1 c1)) (n : Nat) (hn : l.length = n) (hb : n ≤ 1000000)
    (h : ∀ A c w', Held w0 w' (rOwn 87 (.slice A (n + 1) c) (l ++ [.slice A1 n1 c1]) :: B) → K (a.put o.dst (.slice A (n + 1) c)) w') : if Region.wanted o (yielded ops a.tmps) = true then Oper.wp Tryz.prog o a w K Q else E := by
  subst hn
  obtain ⟨i0, hi, hz0, hz1, hz2⟩ := info_parts Tryz.infoBytes
  refine step_append_held [] B hgd s x 104 ho 87 i0 (.slice none 0 0) 24 Tryz.underlying104 hi hz0 hz1 hz2 rfl v l hs hh (fun _ => True) _ [.slice A1 n1 c1] hx ⟨_, c, rfl, by simpa using hc.1, by unfold maxLen; omega, fun _ => ⟨b, 0, rfl, trivial, fun k u hu => by
    cases k with
    | zero => simpa using hu ▸ hcell
    | succ k => simp at hu⟩⟩ (by intro y hy; rw [List.mem_singleton.1 hy]; rfl) ?_ ?_ ?_
  · simp only [List.length_singleton]; omega
  · simp only [List.length_singleton]; unfold maxLen; omega
  · intro A c w' _ _ g
    exact h A c w' g

/-- WHAT HOLDS of the reference's log behind k calls: n records, segments sl. -/
structure RefOk (ps : List (Value × List UInt8)) (al : List RA) (hs : List RF) (sl : List Nat) (n k : Nat) : Prop where
  acts : ActsOk ps al
  hold : ∀ m, holdOf hs m = total al m
  sum : heldSum hs ≤ 65600 * k
  hlen : hs.length ≤ 2 * k
  alen : al.length ≤ k
  each : ∀ j ∈ sl, 1 ≤ j ∧ j ≤ n
  last : ∀ ls j, sl = ls ++ [j] → 0 < total al (nameB j)
  cnt : n ≤ k
  slen : sl.length ≤ n
theorem RefOk.nil : RefOk [] [] [] [] 0 0 := ⟨acts_nil, fun _ => rfl, Nat.le_refl _, Nat.le_refl _, Nat.le_refl _, fun _ h => (by cases h), fun ls j h => by simp at h, Nat.le_refl _, Nat.le_refl _⟩
theorem RefOk.up {ps ps' : List (Value × List UInt8)} {al : List RA} {hs : List RF} {sl : List Nat} {n k : Nat} (h : RefOk ps al hs sl n k) (hp : ∀ q ∈ ps, q ∈ ps') : RefOk ps' al hs sl n k := { h with acts := h.acts.up hp }
/-- one call later, nothing done. -/
theorem RefOk.later {ps : List (Value × List UInt8)} {al : List RA} {hs : List RF} {sl : List Nat} {n k : Nat} (h : RefOk ps al hs sl n k) : RefOk ps al hs sl n (k + 1) :=
  ⟨h.acts, h.hold, by have := h.sum; omega, by have := h.hlen; omega, by have := h.alen; omega, h.each, h.last, by have := h.cnt; omega, h.slen⟩
/-- behind a sync (hs': what it holds). -/
theorem RefOk.synced {ps : List (Value × List UInt8)} {al : List RA} {hs hs' : List RF} {sl : List Nat} {n k : Nat} (h : RefOk ps al hs sl n k) {s : List UInt8} (hc : Counted al hs hs' s) :
    ActsOk ps (al.map (mark s)) ∧ (∀ m, holdOf hs' m = total (al.map (mark s)) m) ∧ heldSum hs' ≤ heldSum hs ∧ hs'.length ≤ hs.length + 1 := by
  refine ⟨h.acts.marked s, fun m => ?_, ?_, hc.len⟩
  · rw [hc.hold, total_marked]
    by_cases hm : m = s
    · rw [if_pos hm, hm]
    · rw [if_neg hm]; exact h.hold m
  · have h1 := hc.sum
    have h2 := h.hold s
    omega
/-- behind a write of a record to s. -/
theorem RefOk.wrote {ps ps' : List (Value × List UInt8)} {al al0 : List RA} {hs hs0 : List RF} {sl sl' : List Nat} {n k : Nat} (h : RefOk ps al0 hs0 sl n k) (hk : k < 100)
    (hacts : ActsOk ps al) (hhold : ∀ m, holdOf hs m = total al m) (hsum : heldSum hs ≤ heldSum hs0) (hlen : hs.length ≤ hs0.length + 1) (hal : al.length = al0.length)
    (hp : ∀ q ∈ ps, q ∈ ps') {s : List UInt8} {A : Option Addr} {bl c : Nat} (hb : inBag ps' A bl c) (hbl : 0 < bl ∧ bl ≤ 65600)
    (hsl : ∀ j ∈ sl', 1 ≤ j ∧ j ≤ n + 1) (hlast : ∀ ls j, sl' = ls ++ [j] → nameB j = s) (hsl2 : sl'.length ≤ n + 1) :
    RefOk ps' (al ++ [⟨s, total al s, A, bl, c, false⟩]) (fput hs ⟨s, none, 0, 0, total al s + bl⟩) sl' (n + 1) (k + 1) := by
  have h1 := h.sum
  have h2 := h.hlen
  have h3 := h.alen
  have h4 := heldSum_fput hs ⟨s, none, 0, 0, total al s + bl⟩
  have h5 := heldSum_fwo hs s
  have h6 := hhold s
  have h7 := fput_len hs ⟨s, none, 0, 0, total al s + bl⟩
  dsimp only at h4
  have h8 : holdOf hs s ≤ heldSum hs := by omega
  refine ⟨hacts.snoc hp _ hb rfl (by omega) (by dsimp only; omega), fun m => ?_, by omega, by omega, by rw [List.length_append, List.length_singleton]; omega, hsl, fun ls j e => ?_, by have := h.cnt; omega, hsl2⟩
  · rw [holdOf_fput, total_snoc]
    dsimp only
    by_cases hm : m = s
    · rw [if_pos hm, if_pos hm.symm, hm]
    · rw [if_neg hm, if_neg (fun e => hm e.symm), Nat.add_zero]
      exact hhold m
  · rw [total_snoc]
    dsimp only
    rw [if_pos (hlast ls j e).symm]
    omega
end Go.Proofs.YtdbhccehbjhbpaaGreatDoor
