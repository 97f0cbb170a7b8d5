/- kvstore: a law. (Several texts in one file, by mz.py.) -/
import Derived.Test.YtdbhccehbjhbpaaGreatDoorYA
import Derived.Test.YtdbhccehbjhbpaaGreatDoorK11
import Derived.BigQuiet
import Derived.Test.YtdbhccehbjhbpaaGreatDoorYC
import Derived.Test.YtdbhccehbjhbpaaGreatDoorYE

/- the reference store: value. -/
namespace Go.Proofs.YtdbhccehbjhbpaaGreatDoor
open Go.RowKit
open Slog (numB)

section
variable {w0 w : World} {B : List Res}
set_option maxRecDepth 100000 in
theorem rvalue_held {A : Option Addr} {c n : Nat} {l : List UInt8} (h : Held w0 w (rBytes (.slice A n c) l :: B)) (hn : n = l.length) (hl : l.length ≤ 100000000) (gone : Bool) (s : List UInt8) (hs : s.length < 65536) :
    Calls Tryz.prog 51 #[.slice A n c, .bool gone, sv s] w fun e w' => ∃ v', e = .returned v' ∧ Held w0 w' (rBytes v' (l ++ Kv.told gone s) :: B) := by
  have HN := hid hn
  have HH := hid h
  have HL := hid hl
  cases gone with
  | true =>
    rw [show Kv.told true s = [1] from rfl]
    generalize sv s = sx at *
    clear h hn hl hs
    go_enter Tryz.func51, Tryz.ntmps51
    go_wp2_with (at_builtin; refine wpl_app rfl _ _ rfl _ l rfl (HH.out.lit1 1 rfl rfl).pull1 (fun _ => True) _ [1] rfl (Held.bytes (l1 := []) (HH.out.lit1 1 rfl rfl)) (by have := HL.out; simp; omega) ?c1)
    case c1 =>
      intro A2 c2 w2 g
      have G := hid g.pull1.drop0
      clear g HH
      go_wp2_with fail
      go_ret
      exact ⟨_, rfl, G.out⟩
  | false =>
    have HT := hid (fun w1 A1 c1 (r : List UInt8) B1 (g1 : Held w0 w1 (rBytes (.slice A1 r.length c1) r :: B1)) (hr : r.length ≤ 1000000000) => rtext_held g1 (fun _ => True) A1 c1 r (Held.bytes (l1 := []) g1) hr s hs)
    have HE := hid (show (l ++ [0]) ++ (numB s.length ++ s) = l ++ Kv.told false s by unfold Kv.told; simp)
    rw [← HE.out]
    obtain ⟨r, hr⟩ : ∃ r, r = l ++ [0] := ⟨_, rfl⟩
    have hr2 : r.length = l.length + 1 := by rw [hr]; simp
    have HRR := hid (And.intro hr hr2)
    rw [← hr]
    clear hr hr2
    generalize sv s = sx at *
    generalize numB s.length ++ s = tl at *
    clear h hn hl hs
    go_enter Tryz.func51, Tryz.ntmps51
    go_wp2_with (at_builtin; refine wpl_app rfl _ _ rfl _ l rfl (HH.out.lit1 0 rfl rfl).pull1 (fun _ => True) _ [0] rfl (Held.bytes (l1 := []) (HH.out.lit1 0 rfl rfl)) (by have := HL.out; simp; omega) ?c1)
    case c1 =>
      intro A2 c2 w2 g
      have HR := hid (show r.length ≤ 1000000000 by have := HL.out; have := HRR.out.2; omega)
      rw [← HRR.out.1] at g
      rw [← HRR.out.2] at g ⊢
      have HTT := hid (HT.out _ _ _ _ _ g HR.out)
      clear g HH HT
      go_wp2_with fail
      refine HTT.out.mono ?_
      rintro e w3 ⟨v3, rfl, g3⟩
      have G3 := hid g3
      clear g3 HTT
      go_wp2_with fail
      go_ret
      exact ⟨_, rfl, G3.out.pull1.drop0.pull1.drop0⟩
end
end Go.Proofs.YtdbhccehbjhbpaaGreatDoor

/- the reference store: May. -/
namespace Go.Proofs.YtdbhccehbjhbpaaGreatDoor
open Go.RowKit
open Kv (It KOp Items errs err1)

theorem errs_take {ops : List KOp} {k : Nat} (hk : k < ops.length) (h : errs [] ops = errs ((ops.take k).map (·.key)).reverse (ops.drop k)) (h1 : err1 ((ops.take k).map (·.key)).reverse ops[k] = 0) :
    errs [] ops = errs ((ops.take (k + 1)).map (·.key)).reverse (ops.drop (k + 1)) := by
  rw [h, List.drop_eq_getElem_cons hk, List.take_succ_eq_append_getElem hk, List.map_append, List.reverse_append]
  conv => lhs; unfold errs
  rw [if_pos h1]
  rfl
theorem errs_stop {ops : List KOp} {k : Nat} (hk : k < ops.length) (h : errs [] ops = errs ((ops.take k).map (·.key)).reverse (ops.drop k)) (h1 : err1 ((ops.take k).map (·.key)).reverse ops[k] ≠ 0) :
    errs [] ops = err1 ((ops.take k).map (·.key)).reverse ops[k] := by
  rw [h, List.drop_eq_getElem_cons hk]
  conv => lhs; unfold errs
  rw [if_neg h1]

set_option maxRecDepth 100000 in
set_option maxHeartbeats 4000000 in
theorem rmay06_held {w0 w : World} {B : List Res} (h : Held w0 w B) (v : Value) (ops : List KOp) (ho : OpsR w0 B v ops) :
    Calls Tryz.prog 49 #[v] w fun e w' => e = .returned (.int .i64 (Kv.check ops)) ∧ Held w0 w' B := by
  obtain ⟨O, c, rfl, hc1, hc2⟩ := ho.1.form (M := []) h
  obtain ⟨n, hn⟩ : ∃ n, n = ops.length := ⟨_, rfl⟩
  have HN := hid hn
  have HH := hid h
  have HO := hid ho
  have hck : Kv.check ops = if n = 0 ∨ 256 < n then 1 else errs [] ops := by rw [hn]; rfl
  rw [← hn] at hc1 ⊢
  clear hn h ho
  by_cases h0 : n = 0 ∨ 256 < n
  · rw [if_pos h0] at hck
    rw [hck]
    clear hck
    go_enter Tryz.func49, Tryz.ntmps49
    rcases h0 with h0 | h0
    · subst h0
      go_wp2_with fail
      go_ret
      exact ⟨rfl, HH.out⟩
    · have hb0 : ((n : Int) == 0) = false := by rw [beq_eq_false_iff_ne]; omega
      go_wp2_with fail
      all_goals first | (exfalso; omega) | skip
      go_ret
      exact ⟨rfl, HH.out⟩
  · rw [if_neg h0] at hck
    have hnp : 0 < n := by omega
    have hnb : n ≤ 256 := by omega
    have hb0 : ((n : Int) == 0) = false := by rw [beq_eq_false_iff_ne]; omega
    rw [hck]
    clear hck h0
    go_enter Tryz.func49, Tryz.ntmps49
    go_wp2_with fail
    go_loopw [16] (fun iv wr => ∃ k : Nat, k ≤ n ∧ iv = .int .i64 k ∧ errs [] ops = errs ((ops.take k).map (·.key)).reverse (ops.drop k) ∧ Held w0 wr B) (fun iv _ => n - (intOf iv).toNat)
    case atStart => exact ⟨0, Nat.zero_le _, rfl, rfl, HH.out⟩
    case round =>
      clear HH
      obtain ⟨k, hk, rfl, he, hh⟩ := hrel
      by_cases hlt : k < n
      · have hlo : k < ops.length := by rw [← HN.out]; exact hlt
        obtain ⟨b, off, c', hv, o0, o1, o2⟩ := (HO.out.1 wr [] hh).op hlo
        have hlen := HO.out.2 _ (List.getElem_mem hlo)
        have HST := hid (errs_stop hlo he)
        have HTK := hid (errs_take hlo he)
        have HKEY := hid (fun (x : List UInt8) => show x ∈ ((ops.take k).map (·.key)).reverse ↔ ∃ j, ∃ hj : j < ops.length, j < k ∧ ops[j].key = x by
          rw [List.mem_reverse, List.mem_map]
          constructor
          · rintro ⟨o, ho, rfl⟩
            obtain ⟨j, hj, rfl⟩ := List.getElem_of_mem ho
            rw [List.length_take] at hj
            exact ⟨j, by omega, by omega, by rw [List.getElem_take]⟩
          · rintro ⟨j, hj, hjk, rfl⟩
            have hjt : j < (ops.take k).length := by rw [List.length_take]; omega
            have he : (ops.take k)[j] = ops[j] := List.getElem_take
            exact ⟨ops[j], he ▸ List.getElem_mem hjt, rfl⟩)
        injection hv with e1 e2 e3
        subst e1
        clear e2 e3
        have hltn : (k : Int) < (n : Int) := by omega
        have hk0 : (0 : Int) ≤ (k : Int) := by omega
        generalize ((ops.take k).map (·.key)).reverse = seen at *
        generalize ops[k] = o at *
        obtain ⟨key, gone, value⟩ := o
        unfold sv at o0 o2
        dsimp only at o0 o1 o2 hlen
        have HB := hid (hh.block 55 #[.string ⟨key.toArray⟩, .bool gone, .string ⟨value.toArray⟩])
        obtain ⟨hlk, hlv⟩ := hlen
        clear hh he
        by_cases c1 : key = [] ∨ 128 < key.length
        · have he1 : err1 seen ⟨key, gone, value⟩ = 6 := by unfold err1; simp only [if_pos c1]
          rw [he1] at HST
          have HE := hid (HST.out (by decide))
          clear HST HTK he1
          rcases c1 with rfl | c1
          · go_wp2_with fail
            go_ret
            exact ⟨by rw [HE.out]; rfl, HB.out.drop0⟩
          · have k1 : ¬ key = [] := fun e => by rw [e] at c1; simp at c1
            go_wp2_with fail
            all_goals first
              | exact absurd (by assumption) k1
              | (go_ret; exact ⟨by rw [HE.out]; rfl, HB.out.drop0⟩)
        have k1 : ¬ key = [] := fun e => c1 (.inl e)
        have k2 : key.length ≤ 128 := by omega
        have k0 : ¬ (List.isEmpty key = true ∨ (128 : Int) < (key.length : Int)) := by
          rintro (e | e)
          · exact k1 (List.isEmpty_iff.1 e)
          · omega
        by_cases c2 : gone = true ∧ value ≠ []
        · have he1 : err1 seen ⟨key, gone, value⟩ = 1 := by unfold err1; simp only [if_neg c1, if_pos c2]
          rw [he1] at HST
          have HE := hid (HST.out (by decide))
          clear HST HTK he1
          obtain ⟨rfl, c2⟩ := c2
          have k3 : ¬ (!List.isEmpty value) = false := fun e => c2 (List.isEmpty_iff.1 (by simpa using e))
          clear c1 c2
          go_wp2_with fail
          all_goals first
            | exact absurd (by assumption) k0
            | exact absurd (by assumption) k3
            | (go_ret; exact ⟨by rw [HE.out]; rfl, HB.out.drop0⟩)
        by_cases c3 : 4096 < value.length
        · have he1 : err1 seen ⟨key, gone, value⟩ = 4 := by unfold err1; simp only [if_neg c1, if_neg c2, if_pos c3]
          rw [he1] at HST
          have HE := hid (HST.out (by decide))
          clear HST HTK he1
          have hg : gone = false := by
            cases gone with
            | false => rfl
            | true => exact absurd ⟨rfl, fun e => by rw [e] at c3; simp at c3⟩ c2
          subst hg
          clear c1 c2
          go_wp2_with fail
          all_goals first
            | exact absurd (by assumption) k0
            | (go_ret; exact ⟨by rw [HE.out]; rfl, HB.out.drop0⟩)
        have c3' : value.length ≤ 4096 := by omega
        have HLO := hid (fun (j : Nat) (hj : j < n) w1 (g1 : Held w0 w1 (rBlk wr.heap.size 55 #[.string ⟨key.toArray⟩, .bool gone, .string ⟨value.toArray⟩] :: B)) => (HO.out.cons.1 w1 [] g1).op (show j < ops.length by rw [← HN.out]; exact hj))
        have he61 : key ∈ seen → err1 seen ⟨key, gone, value⟩ = 61 := fun c4 => by unfold err1; simp only [if_neg c1, if_neg c2, if_neg c3, if_pos c4]
        have he0 : key ∉ seen → err1 seen ⟨key, gone, value⟩ = 0 := fun c4 => by unfold err1; simp only [if_neg c1, if_neg c2, if_neg c3, if_neg c4]
        have HE61 := hid he61
        have HE0 := hid he0
        have hgv : gone = true → value = [] := fun e => Classical.byContradiction fun e2 => c2 ⟨e, e2⟩
        clear c1 c2 c3 he61 he0
        have HGV := hid hgv
        clear hgv
        cases gone with
        | true =>
          have hv0 : value = [] := HGV.out rfl
          subst hv0
          go_wp2_with fail
          all_goals first | exact absurd (by assumption) k0 | skip
          generalize wr.heap.size = ob at *
          go_loopw [42] (fun jv wq => ∃ j : Nat, j ≤ k ∧ jv = .int .i64 j ∧ (∀ i, ∀ hi : i < ops.length, i < j → ops[i].key ≠ key) ∧ Held w0 wq (rBlk ob 55 #[.string ⟨key.toArray⟩, .bool true, .string ⟨#[]⟩] :: B)) (fun jv _ => k - (intOf jv).toNat)
          case atStart => exact ⟨0, Nat.zero_le _, rfl, fun i hi hl => absurd hl (Nat.not_lt_zero _), HB.out⟩
          case round =>
            clear HB
            obtain ⟨j, hj, rfl, hne, hq⟩ := hrel
            have HQ := hid hq
            have HNE := hid hne
            have x0 := hq.blk0.cell (i := 0) rfl
            by_cases hjk : j < k
            · have hjn : j < n := by omega
              obtain ⟨b3, off3, c3, hv3, p0, p1, p2⟩ := HLO.out j hjn _ hq
              injection hv3 with e1 e2 e3
              injection e1 with e1
              injection e1 with e1 e4
              subst e1 e4
              clear e2 e3
              have hjl : j < ops.length := by rw [← HN.out]; exact hjn
              have hj0 : (0 : Int) ≤ (j : Int) := by omega
              have hjnI : (j : Int) < (n : Int) := by omega
              have hjkI : (j : Int) < (k : Int) := by omega
              have HNX := hid (fun (hk2 : ops[j].key ≠ key) i (hi : i < ops.length) (hij : i < j + 1) => show ops[i].key ≠ key by
                rcases Nat.lt_or_eq_of_le (Nat.le_of_lt_succ hij) with h1 | rfl
                · exact HNE.out i hi h1
                · exact hk2)
              have HIN := hid (fun (hk2 : ops[j].key = key) => (HKEY.out key).2 ⟨j, hjl, hjk, hk2⟩)
              generalize ops[j] = oj at *
              obtain ⟨jk, jg, jv⟩ := oj
              unfold sv at p0 p2
              dsimp only at p0 p1 p2 HNX HIN
              clear hq hne hj
              by_cases hke : jk = key
              · subst hke
                have he := HE61.out (HIN.out rfl)
                have HST2 := hid (HST.out (by rw [he]; decide))
                rw [he] at HST2
                clear HST HTK HE61 HE0 he HNX HIN
                go_wp2_with fail
                go_quiet (fail)
                go_wp2_with fail
                go_ret
                exact ⟨by rw [HST2.out]; rfl, (HQ.out.drewN _).drop0⟩
              · have hkb : (jk == key) = false := by rw [beq_eq_false_iff_ne]; exact hke
                clear HIN HST
                go_wp2_with fail
                go_quiet (fail)
                go_wp2_with fail
                exact ⟨⟨j + 1, by omega, by congr 1, HNX.out hke, HQ.out.drewN _⟩, by show k - ((j : Int) + 1).toNat < k - (j : Int).toNat; omega⟩
            · have hjk2 : j = k := by omega
              subst hjk2
              have hni : ¬ ((j : Int) < (j : Int)) := by omega
              have hks : key ∉ seen := fun hin => by
                obtain ⟨i, hi, hij, e⟩ := (HKEY.out key).1 hin
                exact hne i hi hij e
              have HTK2 := hid (HTK.out (HE0.out hks))
              clear HTK HST HE61 HE0 hne hq
              go_wp2_with fail
              exact ⟨⟨j + 1, by omega, by congr 1, HTK2.out, HQ.out.drop0⟩, by show n - ((j : Int) + 1).toNat < n - (j : Int).toNat; omega⟩
        | false =>
          have hie : List.isEmpty key = false := by cases key with | nil => exact absurd rfl k1 | cons a b => rfl
          have hkd : decide ((128 : Int) < (key.length : Int)) = false := by rw [decide_eq_false_iff_not]; omega
          have hvd : decide ((4096 : Int) < (value.length : Int)) = false := by rw [decide_eq_false_iff_not]; omega
          go_wp2_with fail
          all_goals first | exact absurd (by assumption) k0 | skip
          generalize wr.heap.size = ob at *
          go_loopw [42] (fun jv wq => ∃ j : Nat, j ≤ k ∧ jv = .int .i64 j ∧ (∀ i, ∀ hi : i < ops.length, i < j → ops[i].key ≠ key) ∧ Held w0 wq (rBlk ob 55 #[.string ⟨key.toArray⟩, .bool false, .string ⟨value.toArray⟩] :: B)) (fun jv _ => k - (intOf jv).toNat)
          case atStart => exact ⟨0, Nat.zero_le _, rfl, fun i hi hl => absurd hl (Nat.not_lt_zero _), HB.out⟩
          case round =>
            clear HB
            obtain ⟨j, hj, rfl, hne, hq⟩ := hrel
            have HQ := hid hq
            have HNE := hid hne
            have x0 := hq.blk0.cell (i := 0) rfl
            by_cases hjk : j < k
            · have hjn : j < n := by omega
              obtain ⟨b3, off3, c3, hv3, p0, p1, p2⟩ := HLO.out j hjn _ hq
              injection hv3 with e1 e2 e3
              injection e1 with e1
              injection e1 with e1 e4
              subst e1 e4
              clear e2 e3
              have hjl : j < ops.length := by rw [← HN.out]; exact hjn
              have hj0 : (0 : Int) ≤ (j : Int) := by omega
              have hjnI : (j : Int) < (n : Int) := by omega
              have hjkI : (j : Int) < (k : Int) := by omega
              have HNX := hid (fun (hk2 : ops[j].key ≠ key) i (hi : i < ops.length) (hij : i < j + 1) => show ops[i].key ≠ key by
                rcases Nat.lt_or_eq_of_le (Nat.le_of_lt_succ hij) with h1 | rfl
                · exact HNE.out i hi h1
                · exact hk2)
              have HIN := hid (fun (hk2 : ops[j].key = key) => (HKEY.out key).2 ⟨j, hjl, hjk, hk2⟩)
              generalize ops[j] = oj at *
              obtain ⟨jk, jg, jv⟩ := oj
              unfold sv at p0 p2
              dsimp only at p0 p1 p2 HNX HIN
              clear hq hne hj
              by_cases hke : jk = key
              · subst hke
                have he := HE61.out (HIN.out rfl)
                have HST2 := hid (HST.out (by rw [he]; decide))
                rw [he] at HST2
                clear HST HTK HE61 HE0 he HNX HIN
                go_wp2_with fail
                go_quiet (fail)
                go_wp2_with fail
                go_ret
                exact ⟨by rw [HST2.out]; rfl, (HQ.out.drewN _).drop0⟩
              · have hkb : (jk == key) = false := by rw [beq_eq_false_iff_ne]; exact hke
                clear HIN HST
                go_wp2_with fail
                go_quiet (fail)
                go_wp2_with fail
                exact ⟨⟨j + 1, by omega, by congr 1, HNX.out hke, HQ.out.drewN _⟩, by show k - ((j : Int) + 1).toNat < k - (j : Int).toNat; omega⟩
            · have hjk2 : j = k := by omega
              subst hjk2
              have hni : ¬ ((j : Int) < (j : Int)) := by omega
              have hks : key ∉ seen := fun hin => by
                obtain ⟨i, hi, hij, e⟩ := (HKEY.out key).1 hin
                exact hne i hi hij e
              have HTK2 := hid (HTK.out (HE0.out hks))
              clear HTK HST HE61 HE0 hne hq
              go_wp2_with fail
              exact ⟨⟨j + 1, by omega, by congr 1, HTK2.out, HQ.out.drop0⟩, by show n - ((j : Int) + 1).toNat < n - (j : Int).toNat; omega⟩
      · have hltn : ¬ ((k : Int) < (n : Int)) := by omega
        rw [List.drop_of_length_le (by rw [← HN.out]; omega)] at he
        have HE := hid he
        clear he
        go_wp2_with fail
        go_ret
        exact ⟨by rw [HE.out]; rfl, hh⟩
end Go.Proofs.YtdbhccehbjhbpaaGreatDoor

/- the reference store: Open of an empty disk. -/
namespace Go.Proofs.YtdbhccehbjhbpaaGreatDoor
open Go.RowKit
open Kv (It)

/-- no records rise. -/
theorem rrising_none (w : World) (A : Option Addr) (c : Nat) :
    Calls Tryz.prog 46 #[.slice A 0 c] w fun e w' => e = .returned (.bool true) ∧ w' = w := by
  go_enter Tryz.func46, Tryz.ntmps46
  go_wp2_with fail
  refine wp_loop_rounds 1 ?_
  rw [rounds_succ]
  go_wp2_with fail
  go_ret
  exact ⟨rfl, rfl⟩

set_option maxRecDepth 100000 in
set_option maxHeartbeats 1000000 in
theorem ropen6_none {w0 w : World} {B : List Res} {y : Nat} (h : Held w0 w (rBlk y 97 (rdCells 16777216 (.slice none 0 0) (.slice none 0 0)) :: rAl (.slice none 0 0) [] :: rBig bytesLoc [] :: rFl (.slice none 0 0) [] :: B)) :
    Calls Tryz.prog 17 #[.pointer (some ⟨y, 0, none⟩)] w fun e w' => ∃ x g ps, e = .returned (.tuple #[.pointer (some ⟨x, 0, none⟩), .int .i64 0]) ∧
      Held w0 w' (rBlk x 102 (rsCells g (.slice none 0 0) 0 0) :: rIts (.slice none 0 0) [] :: rBlk y 97 (rdCells 16777216 (.slice none 0 0) (.slice none 0 0)) :: rAl (.slice none 0 0) [] :: rBig bytesLoc ps :: rFl (.slice none 0 0) [] :: rBlk g 106 (rlCells y (.slice none 0 0) (.slice none 0 0) 1) :: rOwn 3 (.slice none 0 0) (natRow []) :: rOwn 87 (.slice none 0 0) [] :: B) := by
  have HO := hid (ropen5_none h)
  clear h
  go_enter Tryz.func17, Tryz.ntmps17
  go_wp2_with fail
  refine HO.out.mono ?_
  rintro e w1 ⟨g, ps, rfl, g1⟩
  have g2 := g1.block 102 #[.pointer (some ⟨g, 0, none⟩), .slice none 0 0, .int .i64 0, .int .i64 0]
  have l2 : (w1.alloc (.cells #[.pointer (some ⟨g, 0, none⟩), .slice none 0 0, .int .i64 0, .int .i64 0] 102)).cell? ⟨g, 2, none⟩ = some (.slice none 0 0) := g2.pull4.blk0.cell (i := 2) rfl
  have l3 : (w1.alloc (.cells #[.pointer (some ⟨g, 0, none⟩), .slice none 0 0, .int .i64 0, .int .i64 0] 102)).cell? ⟨g, 3, none⟩ = some (.int .i64 1) := g2.pull4.blk0.cell (i := 3) rfl
  have s2 := g2.blk0.cell (i := 2) rfl
  have s3 := g2.blk0.cell (i := 3) rfl
  have f3 := g2.blk0.frozen 3
  have G2 := hid g2
  clear g1 g2 HO
  go_wp2_with fail
  refine wp_loop_rounds 1 ?_
  rw [rounds_succ]
  go_wp2_with fail
  refine wp_loop_rounds 1 ?_
  rw [rounds_succ]
  go_wp2_with fail
  refine (rrising_none _ _ _).mono ?_
  rintro e w2 ⟨rfl, rfl⟩
  go_wp2_with fail
  go_ret2
  have g4 := ((G2.out.nil_own 87).nil_own 3).its_nil
  exact ⟨_, g, ps, rfl, g4.pull2.pull2.pull7.pull8.pull8.pull8.pull8.pull7.pull8⟩
end Go.Proofs.YtdbhccehbjhbpaaGreatDoor
