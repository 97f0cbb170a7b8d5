/- kvstore: check. -/
import Derived.Test.YtdbhccehbjhbpaaGreatDoorK14

namespace Go.Proofs.YtdbhccehbjhbpaaGreatDoor
open Go.RowKit
open Disk (Dk Dict put_new get_none')
open Kv (It KOp Items errs err1)

/-- the keys seen so far, as the map has them. -/
def seenD (ks : List (List UInt8)) : Dict Nat := ks.map fun k => (k, 1)
theorem seen_none {ks : List (List UInt8)} {k : List UInt8} (h : k ∉ ks) : Dict.get (seenD ks) k = none := by
  refine get_none' fun p hp e => h ?_
  obtain ⟨x, hx, rfl⟩ := List.mem_map.1 hp
  exact e ▸ hx
theorem seen_some {ks : List (List UInt8)} {k : List UInt8} (h : k ∈ ks) : Dict.get (seenD ks) k = some 1 := by
  induction ks with
  | nil => cases h
  | cons j ks ih =>
    show Dict.get ((j, 1) :: seenD ks) k = _
    rw [Disk.get_cons]
    split
    · rfl
    · rename_i hne
      rcases List.mem_cons.1 h with e | h
      · exact absurd e.symm hne
      · exact ih h
theorem seen_put {ks : List (List UInt8)} {k : List UInt8} (h : k ∉ ks) : Dict.put (seenD ks) k 1 = seenD (k :: ks) := put_new (seen_none h) 1

/-- ops that are read wherever these things stand, with lengths that may be. -/
def OpsR (w0 : World) (B : List Res) (v : Value) (ops : List KOp) : Prop := Ops w0 B v ops ∧ ∀ o ∈ ops, o.key.length ≤ 9223372036854775807 ∧ o.value.length ≤ 9223372036854775807
theorem KOps.opsR {w0 : World} {v : Value} {ops : List KOp} (h : KOps (· < w0.heap.size) w0 v ops) (B : List Res) : OpsR w0 B v ops := ⟨h.ops B, h.2⟩
theorem OpsR.cons {w0 : World} {B : List Res} {R : Res} {v : Value} {ops : List KOp} (h : OpsR w0 B v ops) : OpsR w0 (R :: B) v ops := ⟨h.1.cons, h.2⟩

set_option maxRecDepth 100000 in
set_option maxHeartbeats 4000000 in
theorem check_held {w0 w : World} {B : List Res} (h : Held w0 w B) (v : Value) (ops : List KOp) (ho : OpsR w0 B v ops) :
    Calls Tryz.prog 35 #[v] w fun e w' => e = .returned (.int .i64 (Kv.check ops)) ∧ Held w0 w' B := by
  obtain ⟨O, c, rfl, hc1, hc2⟩ := ho.1.form (M := []) h
  obtain ⟨n, hn⟩ : ∃ n, n = ops.length := ⟨_, rfl⟩
  have HN := hid hn
  have HH := hid h
  have HO := hid ho
  have hck : Kv.check ops = if n = 0 ∨ 256 < n then 1 else errs [] ops := by rw [hn]; rfl
  rw [← hn] at hc1 ⊢
  clear hn h ho
  by_cases h0 : n = 0 ∨ 256 < n
  · rw [if_pos h0] at hck
    rw [hck]
    clear hck
    go_enter Tryz.func35, Tryz.ntmps35
    rcases h0 with h0 | h0
    · subst h0
      go_wp2_with fail
      go_ret
      exact ⟨rfl, HH.out⟩
    · have hb0 : ((n : Int) == 0) = false := by rw [beq_eq_false_iff_ne]; omega
      go_wp2_with fail
      all_goals first | (exfalso; omega) | skip
      go_ret
      exact ⟨rfl, HH.out⟩
  · rw [if_neg h0] at hck
    have hnp : 0 < n := by omega
    have hnb : n ≤ 256 := by omega
    have hb0 : ((n : Int) == 0) = false := by rw [beq_eq_false_iff_ne]; omega
    have HI := hid (show Held w0 (w.alloc (.map #[] 0)) (rHeld w.heap.size (seenD []) :: B) from HH.out.map_made Tryz.prog 9)
    rw [hck]
    clear hck h0 HH
    have hmm := @run_makeMap Tryz.prog
    go_enter Tryz.func35, Tryz.ntmps35
    go_wp2_with fail
    generalize w.heap.size = bm at *
    go_loopw [17] (fun iv wr => ∃ (k : Nat) (seen : List (List UInt8)), k ≤ n ∧ iv = .int .i64 k ∧ errs [] ops = errs seen (ops.drop k) ∧ Held w0 wr (rHeld bm (seenD seen) :: B)) (fun iv _ => n - (intOf iv).toNat)
    case atStart => exact ⟨0, [], Nat.zero_le _, rfl, rfl, HI.out⟩
    case round =>
      clear HI
      obtain ⟨k, seen, hk, rfl, he, hh⟩ := hrel
      by_cases hlt : k < n
      · have hlo : k < ops.length := by rw [← HN.out]; exact hlt
        obtain ⟨b, off, c', hv, o0, o1, o2⟩ := (HO.out.1 wr [_] hh).op hlo
        have hlen := HO.out.2 _ (List.getElem_mem hlo)
        have hdr : ops.drop k = ops[k] :: ops.drop (k + 1) := List.drop_eq_getElem_cons hlo
        rw [hdr] at he
        generalize ops[k] = o at *
        injection hv with e1 e2 e3
        subst e1
        clear e2 e3
        have hltn : (k : Int) < (n : Int) := by omega
        obtain ⟨key, gone, value⟩ := o
        unfold sv at o0 o2
        dsimp only at o0 o1 o2 hlen
        have HB := hid (hh.block 55 #[.string ⟨key.toArray⟩, .bool gone, .string ⟨value.toArray⟩])
        have HE := hid he
        have HD := hid hdr
        obtain ⟨hlk, hlv⟩ := hlen
        clear hh he hdr
        by_cases c1 : key = [] ∨ 128 < key.length
        · have he1 : errs seen (⟨key, gone, value⟩ :: ops.drop (k + 1)) = 6 := by unfold errs err1; simp only [if_pos c1]; rfl
          rw [he1] at HE
          rcases c1 with rfl | c1
          · go_wp2_with fail
            go_ret
            exact ⟨by rw [HE.out]; rfl, HB.out.drop0.drop0⟩
          · have k1 : ¬ key = [] := fun e => by rw [e] at c1; simp at c1
            go_wp2_with fail
            all_goals first
              | exact absurd (by assumption) k1
              | (go_ret; exact ⟨by rw [HE.out]; rfl, HB.out.drop0.drop0⟩)
        have k1 : ¬ key = [] := fun e => c1 (.inl e)
        have k2 : key.length ≤ 128 := by omega
        have k0 : ¬ (List.isEmpty key = true ∨ (128 : Int) < (key.length : Int)) := by
          rintro (e | e)
          · exact k1 (List.isEmpty_iff.1 e)
          · omega
        by_cases c2 : gone = true ∧ value ≠ []
        · have he1 : errs seen (⟨key, gone, value⟩ :: ops.drop (k + 1)) = 1 := by unfold errs err1; simp only [if_neg c1, if_pos c2]; rfl
          rw [he1] at HE
          obtain ⟨rfl, c2⟩ := c2
          have k3 : ¬ (!List.isEmpty value) = false := fun e => c2 (List.isEmpty_iff.1 (by simpa using e))
          clear c1 c2
          go_wp2_with fail
          all_goals first
            | exact absurd (by assumption) k0
            | exact absurd (by assumption) k3
            | (go_ret; exact ⟨by rw [HE.out]; rfl, HB.out.drop0.drop0⟩)
        by_cases c3 : 4096 < value.length
        · have he1 : errs seen (⟨key, gone, value⟩ :: ops.drop (k + 1)) = 4 := by unfold errs err1; simp only [if_neg c1, if_neg c2, if_pos c3]; rfl
          rw [he1] at HE
          have hg : gone = false := by
            cases gone with
            | false => rfl
            | true => exact absurd ⟨rfl, fun e => by rw [e] at c3; simp at c3⟩ c2
          subst hg
          clear c1 c2
          go_wp2_with fail
          all_goals first
            | exact absurd (by assumption) k0
            | (go_ret; exact ⟨by rw [HE.out]; rfl, HB.out.drop0.drop0⟩)
        have hl := Held.held_lookup (A := [_]) HB.out (n := key) (by omega)
        unfold sv at hl
        have c3' : value.length ≤ 4096 := by omega
        by_cases c4 : key ∈ seen
        · have he1 : errs seen (⟨key, gone, value⟩ :: ops.drop (k + 1)) = 61 := by unfold errs err1; simp only [if_neg c1, if_neg c2, if_neg c3, if_pos c4]; rfl
          rw [he1] at HE
          rw [seen_some c4] at hl
          cases gone with
          | false =>
            clear c1 c2 c3
            go_wp2_with fail
            all_goals first
              | exact absurd (by assumption) k0
              | (go_ret; exact ⟨by rw [HE.out]; rfl, HB.out.drop0.drop0⟩)
          | true =>
            have hv0 : value = [] := Classical.byContradiction fun e => c2 ⟨rfl, e⟩
            subst hv0
            clear c1 c2 c3
            go_wp2_with fail
            all_goals first
              | exact absurd (by assumption) k0
              | (go_ret; exact ⟨by rw [HE.out]; rfl, HB.out.drop0.drop0⟩)
        · have he1 : errs seen (⟨key, gone, value⟩ :: ops.drop (k + 1)) = errs (key :: seen) (ops.drop (k + 1)) := by conv => lhs; unfold errs err1; simp only [if_neg c1, if_neg c2, if_neg c3, if_neg c4, if_true]
          rw [he1] at HE
          rw [seen_none c4] at hl
          have hu := Held.held_put (A := [_]) HB.out (n := key) (by omega) 1
          rw [seen_put c4] at hu
          unfold sv at hu
          have HU := hid hu
          clear hu
          cases gone with
          | false =>
            clear c1 c2 c3
            go_wp2_with (at_mapUpdate; refine wpList_mapUpdate_ex _ rfl _ _ _ 79 rfl _ _ _ rfl rfl rfl _ HU.out ?c7)
            all_goals first | exact absurd (by assumption) k0 | skip
            case c7 =>
              intro w2 g2
              have G2 := hid g2
              clear g2
              go_wp2_with fail
              exact ⟨⟨k + 1, key :: seen, by omega, by congr 1, HE.out, G2.out.drop0⟩, by show n - ((k : Int) + 1).toNat < n - (k : Int).toNat; omega⟩
          | true =>
            have hv0 : value = [] := Classical.byContradiction fun e => c2 ⟨rfl, e⟩
            subst hv0
            clear c1 c2 c3
            go_wp2_with (at_mapUpdate; refine wpList_mapUpdate_ex _ rfl _ _ _ 79 rfl _ _ _ rfl rfl rfl _ HU.out ?c8)
            all_goals first | exact absurd (by assumption) k0 | skip
            case c8 =>
              intro w2 g2
              have G2 := hid g2
              clear g2
              go_wp2_with fail
              exact ⟨⟨k + 1, key :: seen, by omega, by congr 1, HE.out, G2.out.drop0⟩, by show n - ((k : Int) + 1).toNat < n - (k : Int).toNat; omega⟩
      · have hltn : ¬ ((k : Int) < (n : Int)) := by omega
        rw [List.drop_of_length_le (by rw [← HN.out]; omega)] at he
        have HE := hid he
        clear he
        go_wp2_with fail
        go_ret
        exact ⟨by rw [HE.out]; rfl, hh.drop0⟩
end Go.Proofs.YtdbhccehbjhbpaaGreatDoor
