/- the reference store: Commit. (Printed by gen_Y29.py.) -/
import Derived.Test.YtdbhccehbjhbpaaGreatDoorY23
import Derived.Test.YtdbhccehbjhbpaaGreatDoorYF
import Derived.Test.YtdbhccehbjhbpaaGreatDoorYE
import Derived.Test.YtdbhccehbjhbpaaGreatDoorK13
import Derived.Deep.RegionHeld3
import Derived.Deep.DeepCutAuto
import Derived.Deep.RegionLaw

namespace Go.Proofs.YtdbhccehbjhbpaaGreatDoor
open Go.RowKit
open Slog (numB nameB)
open Kv (It KOp enc)

/-- append of one item, in a region that draws. -/
theorem step_item {w0 w : World} {ops : Array Oper} {o : Oper} {a : Act} {K : Act → World → Prop} {Q : Exit → Act → World → Prop} {E : Prop} {B : List Res} (hgd : o.guard = none) (s x : Operand)
    (ho : o.op = .call { callee := .builtin .append, args := #[s, x], argTypes := #[38, 38] })
    (v : Value) (l : List (List UInt8 × It)) (n : Nat) (hn : l.length = n) (hs : a.eval s = v) (hh : Held w0 w (rIts v l :: B)) (ad : Addr) (c : Nat) (p : List UInt8 × It) (hx : a.eval x = .slice (some ad) 1 c) (hcell : ∀ j u, (itRow p)[j]? = some u → w.cell? (ad.add j) = some u) (hb : n ≤ 1000000)
    (h : ∀ A c w', Held w0 w' (rIts (.slice A (n + 1) c) (l ++ [p]) :: B) → K (a.put o.dst (.slice A (n + 1) c)) w') : if Region.wanted o (yielded ops a.tmps) = true then Oper.wp Tryz.prog o a w K Q else E := by
  obtain ⟨iI, ii, iz, is, ib⟩ := info_parts Tryz.infoItem
  refine step_append_row [] B hgd s x 38 ho 4 41 iI _ 48 Tryz.underlying38 ii iz is ib rfl (by decide) v (l.map itRow) n (by rw [List.length_map]; exact hn) hs hh ad c (itRow p) hx rfl hcell (by have := itRow_one [p]; simpa using this) (by omega) (by unfold maxLen; omega) ?_
  intro A c' w' _ _ g
  refine h A c' w' ?_
  unfold rIts
  rw [List.map_append]
  exact g

/-- WHAT THE REFERENCE's STORE HOLDS behind k calls: what was written, the version. -/
def RefAt (w0 : World) (B : List Res) (x : Nat) (wl : List (List UInt8 × It)) (ver k : Nat) (w : World) : Prop :=
  ∃ (y g syn n : Nat) (v vL vH vS vR : Value) (al : List RA) (ps : List (Value × List UInt8)) (hs : List RF) (sl : List Nat) (rs : List Value), RefOk ps al hs sl n k ∧ rs.length = n ∧
    Held w0 w (rBlk x 102 (rsCells g v ver syn) :: rIts v wl :: rBlk y 97 (rdCells 16777216 vL vH) :: rAl vL al :: rBig bytesLoc ps :: rFl vH hs :: rBlk g 106 (rlCells y vS vR 1) :: rOwn 3 vS (natRow sl) :: rOwn 87 vR rs :: B)
/-- what a commit of ops that may be leaves. -/
def Went (w0 : World) (B : List Res) (x : Nat) (wl : List (List UInt8 × It)) (ver : Nat) (ops : List KOp) (k : Nat) (w' : World) : Prop :=
  if (enc (ver + 1) ops).length ≤ 65535 then RefAt w0 B x (wl ++ ops.map fun o => (o.key, o.it (ver + 1))) (ver + 1) (k + 1) w' else RefAt w0 B x wl ver (k + 1) w'
section
variable {w0 w : World} {B : List Res} {x y g n k ver syn : Nat} {v vL vH vS vR : Value} {al : List RA} {ps : List (Value × List UInt8)} {hs : List RF} {sl : List Nat} {rs : List Value} {wl : List (List UInt8 × It)}
set_option maxRecDepth 100000 in
set_option maxHeartbeats 1000000 in
theorem rcommit_bad (h : Held w0 w (rBlk x 102 (rsCells g v ver syn) :: rIts v wl :: rBlk y 97 (rdCells 16777216 vL vH) :: rAl vL al :: rBig bytesLoc ps :: rFl vH hs :: rBlk g 106 (rlCells y vS vR 1) :: rOwn 3 vS (natRow sl) :: rOwn 87 vR rs :: B)) (hr : RefOk ps al hs sl n k) (hrs : rs.length = n) (u : Value) (ops : List KOp) (ho : OpsR w0 B u ops) (hc : Kv.check ops ≠ 0) :
    Calls Tryz.prog 18 #[.pointer (some ⟨x, 0, none⟩), u] w fun e w' => ∃ a b, e = .returned (.tuple #[a, b]) ∧ RefAt w0 B x wl ver (k + 1) w' := by
  have HC := hid (rmay06_held h u ops ho.cons.cons.cons.cons.cons.cons.cons.cons.cons)
  have hce : (Kv.check ops == 0) = false := by rw [beq_eq_false_iff_ne]; exact hc
  have HR := hid (And.intro hr.later hrs)
  generalize Kv.check ops = ce at *
  clear h ho hr hrs
  go_enter Tryz.func18, Tryz.ntmps18
  go_wp2_with (first
    | (go_at_call 49; refine HC.out.mono ?_; rintro e w2 ⟨rfl, g2⟩; have G2 := hid g2; clear g2))
  all_goals first | exact absurd (by assumption) hc | skip
  go_ret2
  exact ⟨_, _, rfl, _, _, _, _, _, _, _, _, _, _, _, _, _, _, HR.out.1, HR.out.2, G2.out⟩

theorem head_len {v n : Nat} (hv : v < 65536) (hn : n < 65536) : (head v n).length ≤ 7 := by
  unfold head
  have := Kv.numB_len hv
  have := Kv.numB_len hn
  simp only [List.length_append, List.length_singleton]
  omega

set_option maxRecDepth 100000 in
set_option maxHeartbeats 4000000 in
theorem rcommit_good (h : Held w0 w (rBlk x 102 (rsCells g v ver syn) :: rIts v wl :: rBlk y 97 (rdCells 16777216 vL vH) :: rAl vL al :: rBig bytesLoc ps :: rFl vH hs :: rBlk g 106 (rlCells y vS vR 1) :: rOwn 3 vS (natRow sl) :: rOwn 87 vR rs :: B)) (hr : RefOk ps al hs sl n k) (hrs : rs.length = n) (hk : k < 60) (hver : ver ≤ 60) (hwl : wl.length ≤ 60000) (u : Value) (ops : List KOp) (ho : OpsR w0 B u ops) (hc0 : Kv.check ops = 0) :
    Calls Tryz.prog 18 #[.pointer (some ⟨x, 0, none⟩), u] w fun e w' => ∃ a b, e = .returned (.tuple #[a, b]) ∧
      Went w0 B x wl ver ops k w' := by
  obtain ⟨hp, hm, hok⟩ := Kv.check_zero hc0
  have hel := Kv.encs_len ops (fun o h => ⟨(hok.each o h).2.1, (hok.each o h).2.2.1⟩)
  have HEV := hid (show enc (ver + 1) ops = head (ver + 1) ops.length ++ ((ops.take ops.length).map KOp.enc).flatten by rw [List.take_length]; rfl)
  have c2 : w.cell? ⟨x, 2, none⟩ = some (.int .i64 ver) := h.blk0.cell (i := 2) rfl
  have HC := hid (rmay06_held h u ops ho.cons.cons.cons.cons.cons.cons.cons.cons.cons)
  rw [hc0] at HC
  obtain ⟨O, oc, rfl, ho1, ho2⟩ := ho.1.form (M := [_, _, _, _, _, _, _, _, _]) h
  have HR := hid (And.intro hr hrs)
  have HO := hid ho
  have HOK := hid hok
  obtain ⟨m, hm'⟩ : ∃ m, m = ops.length := ⟨_, rfl⟩
  have HN := hid hm'
  obtain ⟨ev, hev⟩ : ∃ ev, ev = enc (ver + 1) ops := ⟨_, rfl⟩
  rw [← hev] at HEV
  rw [← hm'] at hp hm ho1 hel HEV HC ⊢
  obtain ⟨nv, hnv⟩ : ∃ nv, nv = ver + 1 := ⟨_, rfl⟩
  have HNV := hid hnv
  rw [← hnv] at HEV
  have hvw : (ver : Int) + 1 = (nv : Int) := by omega
  have hvl : nv ≤ 61 := by omega
  have hvb : ((ver : Int) == 1099511627776) = false := by rw [beq_eq_false_iff_ne]; omega
  have HRL := hid (fun w1 B1 vB (g1 : Held w0 w1 (rBlk y 97 (rdCells 16777216 vL vH) :: rAl vL al :: rBig bytesLoc ps :: rFl vH hs :: rBlk g 106 (rlCells y vS vR 1) :: rOwn 3 vS (natRow sl) :: rOwn 87 vR rs :: rBytes vB ev :: B1)) (hl : 65535 < ev.length) (hl2 : ev.length ≤ 1000000000) => rappend_long g1 hr hk hrs hl hl2)
  have HRG := hid (fun w1 B1 vB (g1 : Held w0 w1 (rBlk y 97 (rdCells 16777216 vL vH) :: rAl vL al :: rBig bytesLoc ps :: rFl vH hs :: rBlk g 106 (rlCells y vS vR 1) :: rOwn 3 vS (natRow sl) :: rOwn 87 vR rs :: rBytes vB ev :: B1)) (hl : ev.length ≤ 65535) => rappend_held g1 hr hk hrs hl)
  have HEL := hid (show ev.length ≤ 1100000 by rw [HEV.out, List.length_append, hm', List.take_length]; have := head_len (v := nv) (n := ops.length) (by omega) (by omega); omega)
  have HEN := hid (show ev = enc nv ops by rw [hev, hnv])
  clear h ho hr hrs hc0 hok hm' hev hnv hk
  go_enter Tryz.func18, Tryz.ntmps18
  go_wp2_with (first
    | (go_at_call 49; refine HC.out.mono ?_; rintro e w2 ⟨rfl, g2⟩; have d2 : w2.cell? ⟨x, 2, none⟩ = some (.int .i64 ver) := g2.blk0.cell (i := 2) rfl; have G2 := hid g2; clear g2)
    | (go_at_call 50; refine (rnumber_held (G2.out.lit1 1 rfl rfl) (fun _ => True) _ _ [1] (Held.bytes (l1 := []) (G2.out.lit1 1 rfl rfl)) (by decide) nv (by omega)).mono ?_; rintro e w3 ⟨v3, rfl, g3⟩; obtain ⟨A3, c3, rfl, -, -⟩ := Held.form (l1 := []) g3; have G3 := hid g3; clear g3 G2 d2)
    | (go_at_call 50; refine (rnumber_held G3.out (fun _ => True) _ _ ([1] ++ numB nv) (Held.bytes (l1 := []) G3.out) (by have := Kv.numB_len (n := nv) (by omega); simp only [List.length_append, List.length_singleton]; omega) m (by omega)).mono ?_; rintro e w4 ⟨v4, rfl, g4⟩; have G4 := hid (show Held w0 w4 (rBytes v4 (head nv m) :: _) from g4.pull1.drop0.pull1.drop0); clear g4 G3))
  go_loopw [8, 38] (fun bv iv wr => ∃ j : Nat, j ≤ m ∧ iv = .int .i64 j ∧ Held w0 wr (rBytes bv (head nv m ++ ((ops.take j).map KOp.enc).flatten) :: rBlk x 102 (rsCells g v ver syn) :: rIts v wl :: rBlk y 97 (rdCells 16777216 vL vH) :: rAl vL al :: rBig bytesLoc ps :: rFl vH hs :: rBlk g 106 (rlCells y vS vR 1) :: rOwn 3 vS (natRow sl) :: rOwn 87 vR rs :: B)) (fun _ iv _ => m - (intOf iv).toNat)
  case atStart => exact ⟨0, Nat.zero_le _, rfl, by simpa using G4.out⟩
  case round =>
    clear c2
    obtain ⟨j, hj, rfl, hh⟩ := hrel
    obtain ⟨bA, bc, rfl, hb1, hb2⟩ := Held.form (l1 := []) hh
    by_cases hlt : j < m
    · have hlo : j < ops.length := by rw [← HN.out]; exact hlt
      obtain ⟨b, off, c', hv, o0, o1, o2⟩ := (HO.out.1 wr [_, _, _, _, _, _, _, _, _, _] hh).op hlo
      injection hv with e1 e2 e3
      subst e1
      clear e2 e3
      obtain ⟨y1, y2, y3, y4, -⟩ := HOK.out.each _ (List.getElem_mem hlo)
      have HTS := hid (enc_take_succ hlo)
      have hll := Kv.encs_len (ops.take j) (fun o h => ⟨(HOK.out.each o (List.take_subset _ _ h)).2.1, (HOK.out.each o (List.take_subset _ _ h)).2.2.1⟩)
      rw [List.length_take] at hll
      have hhl := head_len (v := nv) (n := m) (by omega) (by omega)
      obtain ⟨l, hl⟩ : ∃ l, l = head nv m ++ ((ops.take j).map KOp.enc).flatten := ⟨_, rfl⟩
      have hlen : l.length ≤ 1100000 := by rw [hl, List.length_append]; omega
      have HL := hid hl
      rw [← hl] at hh hb1 ⊢
      generalize ops[j] = o at *
      obtain ⟨key, gone, value⟩ := o
      unfold sv at o0 o2
      dsimp only at o0 o1 o2 y1 y2 y3 y4
      have hltn : (j : Int) < (m : Int) := by omega
      have hj0 : (0 : Int) ≤ (j : Int) := by omega
      have HB := hid (hh.block 55 #[.string ⟨key.toArray⟩, .bool gone, .string ⟨value.toArray⟩])
      have x0 := HB.out.blk0.cell (i := 0) rfl
      have x1 := HB.out.blk0.cell (i := 1) rfl
      have x2 := HB.out.blk0.cell (i := 2) rfl
      have HT := hid (rtext_held HB.out.drew (fun _ => True) _ _ l (Held.bytes (l1 := [_]) HB.out.drew) (by omega) key (by omega))
      have hnk := Kv.numB_len (n := key.length) (by omega)
      obtain ⟨l2', hl2⟩ : ∃ l2', l2' = l ++ (numB key.length ++ key) := ⟨_, rfl⟩
      have hl2len : l2'.length ≤ 1200000 := by rw [hl2, List.length_append, List.length_append]; omega
      have HL2 := hid hl2
      rw [← hl2] at HT
      have HTo := hid (fun w1 A1 c1 B1 (g1 : Held w0 w1 (rBytes (.slice A1 l2'.length c1) l2' :: B1)) => rvalue_held g1 rfl (by omega) gone value (by omega))
      unfold sv at HT HTo
      clear hh hl hl2 hll hhl y1 y2 y3 y4 hnk hlen
      go_wp2_with fail
      generalize hkb : wr.heap.size = kb at *
      generalize wr.alloc (.cells #[.string ⟨key.toArray⟩, .bool gone, .string ⟨value.toArray⟩] 55) = w1 at *
      go_region_held3 (fun w' => w'.cell? ⟨kb, 0, none⟩ = some (.string ⟨key.toArray⟩) ∧ w'.cell? ⟨kb, 1, none⟩ = some (.bool gone) ∧ w'.cell? ⟨kb, 2, none⟩ = some (.string ⟨value.toArray⟩))
        (first | exact ⟨x0, x1, x2⟩ | exact ⟨z0, z1, z2⟩ | exact ⟨t0, t1, t2⟩)
        (first
          | (go_at_call 52; refine HT.out.mono ?_; rintro e w2 ⟨v2, rfl, g2⟩; obtain ⟨A2, c2, rfl, -, -⟩ := Held.form (l1 := []) g2; have z0 := g2.pull1.blk0.cell (i := 0) rfl; have z1 := g2.pull1.blk0.cell (i := 1) rfl; have z2 := g2.pull1.blk0.cell (i := 2) rfl; have G2 := hid g2; clear g2)
          | (go_at_call 51; refine (HTo.out _ _ _ _ G2.out).mono ?_; rintro e w3 ⟨v3, rfl, g3⟩; have t0 := g3.pull1.blk0.cell (i := 0) rfl; have t1 := g3.pull1.blk0.cell (i := 1) rfl; have t2 := g3.pull1.blk0.cell (i := 2) rfl; have G3 := hid g3; clear g3))
      all_goals
        go_wp2_with fail
        refine ⟨⟨j + 1, by omega, by congr 1, ?_⟩, by show m - ((j : Int) + 1).toNat < m - (j : Int).toNat; omega⟩
        have g5 := G3.out.pull1.drop0.pull1.drop0
        have e5 : l2' ++ Kv.told gone value = head nv m ++ ((ops.take (j + 1)).map KOp.enc).flatten := by
          rw [HTS.out, HL2.out, HL.out]
          show _ = _ ++ (_ ++ (numB key.length ++ key ++ Kv.told gone value))
          simp only [List.append_assoc]
        rw [← e5]
        exact g5
    · have hltn : ¬ ((j : Int) < (m : Int)) := by omega
      have hjm : j = m := by omega
      subst hjm
      rw [← HEV.out] at hh hb1 ⊢
      have d0 : wr.cell? ⟨x, 0, none⟩ = some (.pointer (some ⟨g, 0, none⟩)) := hh.pull1.blk0.cell (i := 0) rfl
      have G6 := hid (show Held w0 wr (rBlk y 97 (rdCells 16777216 vL vH) :: rAl vL al :: rBig bytesLoc ps :: rFl vH hs :: rBlk g 106 (rlCells y vS vR 1) :: rOwn 3 vS (natRow sl) :: rOwn 87 vR rs :: rBytes (.slice bA ev.length bc) ev :: rBlk x 102 (rsCells g v ver syn) :: rIts v wl :: B) from hh.pull9.pull9.pull9.pull9.pull9.pull9.pull9)
      clear hh G4
      obtain ⟨en, hen⟩ : ∃ en, en = ev.length := ⟨_, rfl⟩
      have HEN2 := hid hen
      rw [← hen] at G6 hb1 ⊢
      by_cases hfit : en ≤ 65535
      · have HA := hid (HRG.out _ _ _ G6.out (by rw [← HEN2.out]; exact hfit))
        clear HRL HRG G6 hen
        go_wp2_with fail
        refine HA.out.mono ?_
        rintro e w7 ⟨rfl, vL', vH', vS', vR', al', ps', hs', sl', rs', hsub, hr2, hrs2, g7⟩
        have HR2 := hid (And.intro hr2 hrs2)
        have g8 := g7.pull7.drop0.pull8.pull8
        have HJ := hid (show ∃ v', Held w0 w7 (rBlk x 102 (rsCells g v' ver syn) :: rIts v' (wl ++ (ops.take 0).map fun o => (o.key, o.it nv)) :: rBlk y 97 (rdCells 16777216 vL' vH') :: rAl vL' al' :: rBig bytesLoc ps' :: rFl vH' hs' :: rBlk g 106 (rlCells y vS' vR' 1) :: rOwn 3 vS' (natRow sl') :: rOwn 87 vR' rs' :: B) from ⟨v, by simpa using g8⟩)
        clear g7 g8 hr2 hrs2 HA hsub d0
        go_wp2_with fail
        go_loopw [66] (fun iv wq => ∃ i : Nat, i ≤ j ∧ iv = .int .i64 i ∧ ∃ v', Held w0 wq (rBlk x 102 (rsCells g v' ver syn) :: rIts v' (wl ++ (ops.take i).map fun o => (o.key, o.it nv)) :: rBlk y 97 (rdCells 16777216 vL' vH') :: rAl vL' al' :: rBig bytesLoc ps' :: rFl vH' hs' :: rBlk g 106 (rlCells y vS' vR' 1) :: rOwn 3 vS' (natRow sl') :: rOwn 87 vR' rs' :: B)) (fun iv _ => j - (intOf iv).toNat)
        case atStart => exact ⟨0, Nat.zero_le _, rfl, HJ.out⟩
        case round =>
          clear HJ
          obtain ⟨i, hi, rfl, v', hh⟩ := hrel
          obtain ⟨iA, ic, rfl, hi1, hi2⟩ := hh.pull1.its_form
          by_cases hil : i < j
          · have hlo : i < ops.length := by rw [← HN.out]; exact hil
            obtain ⟨b, off, c', hv, o0, o1, o2⟩ := (HO.out.1 wr [_, _, _, _, _, _, _, _, _] hh).op hlo
            injection hv with e1 e2 e3
            subst e1
            clear e2 e3
            have HTS := hid (show wl ++ (ops.take (i + 1)).map (fun o => (o.key, o.it nv)) = (wl ++ (ops.take i).map fun o => (o.key, o.it nv)) ++ [(ops[i].key, ops[i].it nv)] by
              rw [List.take_succ_eq_append_getElem hlo, List.map_append, List.append_assoc]; rfl)
            have hcl : (wl ++ (ops.take i).map fun o => (o.key, o.it nv)).length ≤ 61000 := by
              rw [List.length_append, List.length_map, List.length_take]; omega
            generalize (wl ++ (ops.take i).map fun o => (o.key, o.it nv)) = cur at *
            obtain ⟨L, hL⟩ : ∃ L, L = cur.length := ⟨_, rfl⟩
            have HLL := hid hL
            rw [← hL] at hh hi1 hcl
            generalize ops[i] = o at *
            obtain ⟨key, gone, value⟩ := o
            unfold sv at o0 o2
            dsimp only at o0 o1 o2 HTS
            have hil0 : (i : Int) < (j : Int) := by omega
            have hi0 : (0 : Int) ≤ (i : Int) := by omega
            have HB := hid (hh.block 55 #[.string ⟨key.toArray⟩, .bool gone, .string ⟨value.toArray⟩])
            clear hh hL
            go_upto_block 3 with (fail)
            go_cut [] (fun wx => ∃ v', Held w0 wx (rBlk x 102 (rsCells g v' ver syn) :: rIts v' (cur ++ [(key, ⟨gone, value, nv⟩)]) :: rBlk y 97 (rdCells 16777216 vL' vH') :: rAl vL' al' :: rBig bytesLoc ps' :: rFl vH' hs' :: rBlk g 106 (rlCells y vS' vR' 1) :: rOwn 3 vS' (natRow sl') :: rOwn 87 vR' rs' :: B))
            case first =>
              go_wp2_with fail
              have x0 := HB.out.blk0.cell (i := 0) rfl
              have x1 := HB.out.blk0.cell (i := 1) rfl
              have x2 := HB.out.blk0.cell (i := 2) rfl
              have s1 : (wr.alloc (.cells #[.string ⟨key.toArray⟩, .bool gone, .string ⟨value.toArray⟩] 55)).cell? ⟨x, 1, none⟩ = some (.slice iA L ic) := HB.out.pull1.blk0.cell (i := 1) rfl
              generalize hkb : wr.heap.size = kb at *
              generalize wr.alloc (.cells #[.string ⟨key.toArray⟩, .bool gone, .string ⟨value.toArray⟩] 55) = w1 at *
              have s2 : (w1.alloc (.cells #[.string ⟨key.toArray⟩, .bool gone, .string ⟨value.toArray⟩, .int .i64 nv] 41)).cell? ⟨x, 1, none⟩ = some (.slice iA L ic) := (HB.out.alloc _).pull1.blk0.cell (i := 1) rfl
              clear hkb
              go_region_law (first
                | (refine step_item rfl _ _ rfl _ cur L HLL.out.symm rfl (HB.out.pull2.step (by repeat (first | exact Mod.refl _ _ | refine Mod.alloc ?_ _ | refine Mod.drew ?_))) _ _ (key, ⟨gone, value, nv⟩) rfl (World.news_of_block (heap_alloc_new w1 _)) (by omega) ?_; intro A5 c5 w5 g5; have v1 : w5.cell? ⟨x, 1, none⟩ = some (.slice iA L ic) := g5.pull2.blk0.cell (i := 1) rfl; have f1 := g5.pull2.blk0.frozen 1; have G5 := hid g5; clear g5))
              all_goals
                have G6 := hid (show Held w0 (w5.setCell ⟨x, 1, none⟩ (.slice A5 (L + 1) c5)) (rBlk x 102 (rsCells g (.slice A5 (L + 1) c5) ver syn) :: _) from Held.store (l1 := []) G5.out.pull2 1 (.slice A5 (L + 1) c5))
                have G7 := hid G6.out.pull2.drop0
              all_goals (go_wp2_with fail)
              all_goals go_meet
              all_goals
                case rel => exact ⟨.slice A5 (L + 1) c5, G7.out⟩
            case rest =>
              obtain ⟨v', g7⟩ := hcut
              have G7 := hid g7
              clear g7 HB
              go_wp2_with fail
              refine ⟨⟨i + 1, by omega, by congr 1, v', ?_⟩, by show j - ((i : Int) + 1).toNat < j - (i : Int).toNat; omega⟩
              rw [HTS.out]
              exact G7.out
          · have hil0 : ¬ ((i : Int) < (j : Int)) := by omega
            have hij : i = j := by omega
            subst hij
            rw [List.take_of_length_le (by rw [← HN.out]; exact Nat.le_refl _)] at hh hi1
            have x2 : wr.cell? ⟨x, 2, none⟩ = some (.int .i64 ver) := hh.blk0.cell (i := 2) rfl
            have f2 := hh.blk0.frozen 2
            have G7 := hid (show Held w0 (wr.setCell ⟨x, 2, none⟩ (.int .i64 nv)) (rBlk x 102 (rsCells g _ nv syn) :: _) from Held.store (l1 := []) hh 2 (.int .i64 nv))
            clear hh hi1
            go_wp2_with fail
            go_ret2
            have hw : Went w0 B x wl ver ops k (wr.setCell ⟨x, 2, none⟩ (.int .i64 nv)) := by
              unfold Went
              rw [← HNV.out, ← HEN.out, if_pos (by rw [← HEN2.out]; exact hfit)]
              exact ⟨_, _, _, _, _, _, _, _, _, _, _, _, _, _, HR2.out.1, HR2.out.2, G7.out⟩
            first | exact ⟨⟨_, _, rfl⟩, hw⟩ | exact ⟨_, _, rfl, hw⟩
      · have HA := hid (HRL.out _ _ _ G6.out (by rw [← HEN2.out]; omega) (by have := HEL.out; omega))
        clear HRL HRG G6 hen
        go_wp2_with fail
        refine HA.out.mono ?_
        rintro e w7 ⟨rfl, g7⟩
        have G7 := hid g7.pull7.drop0.pull8.pull8
        clear g7 HA
        go_wp2_with fail
        go_ret2
        have hw : Went w0 B x wl ver ops k w7 := by
          unfold Went
          rw [← HNV.out, ← HEN.out, if_neg (by rw [← HEN2.out]; exact hfit)]
          exact ⟨_, _, _, _, _, _, _, _, _, _, _, _, _, _, HR.out.1.later, HR.out.2, G7.out⟩
        first | exact ⟨⟨_, _, rfl⟩, hw⟩ | exact ⟨_, _, rfl, hw⟩
end
end Go.Proofs.YtdbhccehbjhbpaaGreatDoor
