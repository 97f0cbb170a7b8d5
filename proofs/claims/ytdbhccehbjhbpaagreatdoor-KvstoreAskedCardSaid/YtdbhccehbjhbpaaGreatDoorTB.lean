/- kvstore: a law. (Several texts in one file, by mz.py.) -/
import Derived.Test.YtdbhccehbjhbpaaGreatDoorTA
import Derived.Deep.RegionHeld3
import Derived.Laws.Cover3

/- wire: Unframe. -/
namespace Go.Proofs.YtdbhccehbjhbpaaGreatDoor
open Go.RowKit
open Slog (crc word4 head3 frame unframe len3)

theorem wraps64 (n : Int) (h₀ : 0 ≤ n) (h₁ : n < 2 ^ 62) : IntKind.i64.wrap n = n := by rw [IntKind.wrap_i64]; omega
theorem len3_join (a b c : Int) (ha : 0 ≤ a ∧ a < 256) (hb : 0 ≤ b ∧ b < 256) (hc : 0 ≤ c ∧ c < 256) : bits .or .i64 (bits .or .i64 (a * 65536) (b * 256)) c = a * 65536 + b * 256 + c := by
  rw [bits_join .i64 62 (by decide) wraps64 16 (a * 65536) (b * 256) (by omega) (by omega) (by omega) (by omega) (by omega) (by omega)]
  rw [bits_join .i64 62 (by decide) wraps64 8 (a * 65536 + b * 256) c (by omega) (by omega) (by omega) (by omega) (by omega) (by omega)]
theorem rd_at {S : Nat → Prop} {w : World} {A : Option Addr} {n c : Nat} {l : List UInt8} (h : Rd S w (.slice A n c) (bytesV l)) {k : Nat} (hk : k < l.length) : ∃ b off, A = some ⟨b, off, none⟩ ∧ S b ∧ ∀ j, (hj : j < l.length) → w.cell? ⟨b, off + j, none⟩ = some (.int .u8 l[j].toNat) := by
  obtain ⟨A', c', hv, hc, hm, hA⟩ := h
  injection hv with e1 e2 e3
  subst e1 e3
  obtain ⟨b, off, ha, hs, hcell⟩ := hA (by intro e; have := congrArg List.length e; rw [bytesV_length] at this; rw [this] at hk; simp at hk)
  exact ⟨b, off, ha, hs, fun j hj => hcell j _ (by rw [bytesV_get, List.getElem?_eq_getElem hj]; rfl)⟩

theorem part4 (w : World) (xs : Array Value) (k : Nat) (v : Value) (h : xs[k]? = some v) : (part 5 xs k).run Tryz.prog w = .ok v w := by
  simp [part, isAgg, run_underlying Tryz.underlying5, h, Result.andThen]
theorem eq4 (w : World) (z0 z1 z2 z3 y0 y1 y2 y3 : UInt8) : (Op.equalIn 10000 231 (.agg #[.int .u8 z0.toNat, .int .u8 z1.toNat, .int .u8 z2.toNat, .int .u8 z3.toNat]) (.agg #[.int .u8 y0.toNat, .int .u8 y1.toNat, .int .u8 y2.toNat, .int .u8 y3.toNat])).run Tryz.prog w = .ok ([z0, z1, z2, z3] == [y0, y1, y2, y3]) w := by
  have he : ∀ (a b : UInt8) w, (Op.equalIn 9999 5 (.int .u8 a.toNat) (.int .u8 b.toNat)).run Tryz.prog w = .ok (a == b) w := fun a b w => by
    rw [show (9999 : Nat) = 9998 + 1 from rfl, run_equalIn_int (P := Tryz.prog) w 9998 5 .u8 .u8 _ _ Tryz.underlying5]
    congr 1
    rw [Bool.eq_iff_iff]
    simp only [beq_iff_eq]
    constructor
    · intro h; exact UInt8.toNat_inj.1 (by omega)
    · intro h; rw [h]
  rw [show (10000 : Nat) = 9999 + 1 from rfl]
  unfold Op.equalIn
  simp [run_underlying Tryz.underlying231, Result.andThen]
  have p0 : ∀ (a b c d : Value) w, (part 5 #[a, b, c, d] 0).run Tryz.prog w = .ok a w := fun a b c d w => part4 w _ 0 a rfl
  have p1 : ∀ (a b c d : Value) w, (part 5 #[a, b, c, d] 1).run Tryz.prog w = .ok b w := fun a b c d w => part4 w _ 1 b rfl
  have p2 : ∀ (a b c d : Value) w, (part 5 #[a, b, c, d] 2).run Tryz.prog w = .ok c w := fun a b c d w => part4 w _ 2 c rfl
  have p3 : ∀ (a b c d : Value) w, (part 5 #[a, b, c, d] 3).run Tryz.prog w = .ok d w := fun a b c d w => part4 w _ 3 d rfl
  cases h0 : (z0 == y0) <;> cases h1 : (z1 == y1) <;> cases h2 : (z2 == y2) <;> cases h3 : (z3 == y3) <;>
    simp [List.range', p0, p1, p2, p3, he, h0, h1, h2, h3, Result.andThen]

theorem rd_cut {S : Nat → Prop} {w : World} {bb off m c : Nat} {b : List UInt8} (h : Rd S w (.slice (some ⟨bb, off, none⟩) m c) (bytesV b)) {lo n : Nat} (hlo : lo + n ≤ b.length) (hpos : lo < b.length) :
    Rd S w (.slice (some ⟨bb, off + lo, none⟩) (((n : Int) + (lo : Int)).toNat - lo) (c - lo)) (bytesV ((b.drop lo).take n)) := by
  obtain ⟨A', c', hv, hc, hm, hA⟩ := id h
  injection hv with e1 e2 e3
  subst e1 e3
  obtain ⟨b1, o1, ha, hs, hcell⟩ := rd_at h hpos
  injection ha with ha
  injection ha with hb1 ho1
  subst hb1 ho1
  rw [bytesV_length] at hc
  have hl : (bytesV ((b.drop lo).take n)).length = n := by rw [bytesV_length, List.length_take, List.length_drop]; omega
  refine ⟨_, c - lo, by rw [hl]; congr 1; omega, by rw [hl]; omega, by unfold maxLen at *; omega, fun _ => ⟨bb, off + lo, rfl, hs, fun k u hu => ?_⟩⟩
  have hk : k < n := by have := (List.getElem?_eq_some_iff.1 hu).1; omega
  rw [Nat.add_assoc, hcell (lo + k) (by omega)]
  rw [bytesV_get, List.getElem?_take, if_pos hk, List.getElem?_drop, List.getElem?_eq_getElem (by omega)] at hu
  exact hu

def UnPost (w : World) (b : List UInt8) (e : Ending) (w' : World) : Prop :=
  match unframe b with
  | some (p, n) => ∃ v' F, e = .returned (.tuple #[v', .int .i64 n, .int .i64 0]) ∧ Own 5 1 v' p.length (bytesV p) w' F ∧ Upd w w' [] F
  | none => ∃ er : Int, er ≠ 0 ∧ e = .returned (.tuple #[.slice none 0 0, .int .i64 0, .int .i64 er]) ∧ Mod (fun _ => False) w w'

set_option maxRecDepth 100000 in
set_option maxHeartbeats 2000000 in
theorem unframe_any (S : Nat → Prop) (w : World) (v : Value) (b : List UInt8) (hv : Rd S w v (bytesV b)) (hl : b.length ≤ 1099511627776) :
    Calls Tryz.prog 153 #[v] w (UnPost w b) := by
  obtain ⟨A, c, rfl, hc, hm, hA⟩ := id hv
  rw [bytesV_length] at hc hv ⊢
  unfold maxLen at hm
  have HV := hid hv
  obtain ⟨i0, hi, hz0, hz1, hz2⟩ := info_parts Tryz.info5
  have HI := hid (And.intro hi (And.intro hz0 (And.intro hz1 hz2)))
  clear hA hv hi hz0 hz1 hz2
  by_cases h3 : b.length < 3
  · have HE := hid (show unframe b = none by unfold unframe; rw [if_pos h3])
    go_enter Tryz.func153, Tryz.ntmps153
    go_wp2
    go_ret3
    unfold UnPost
    rw [HE.out]
    exact ⟨2, by decide, rfl, Mod.refl _ _⟩
  · obtain ⟨bb, off, rfl, -, hcell⟩ := rd_at HV.out (k := 2) (by omega)
    have c0 := hcell 0 (by omega)
    have c1 := hcell 1 (by omega)
    have c2 := hcell 2 (by omega)
    rw [Nat.add_zero] at c0
    have HL := hid (show ((len3 b : Nat) : Int) = (b[0].toNat : Int) * (65536 : Int) + (b[1].toNat : Int) * (256 : Int) + (b[2].toNat : Int) by
      unfold len3
      rw [List.getElem?_eq_getElem (by omega), List.getElem?_eq_getElem (by omega), List.getElem?_eq_getElem (by omega)]
      simp)
    have HC := hid hcell
    have hx0 := b[0].toNat_lt
    have hx1 := b[1].toNat_lt
    have hx2 := b[2].toNat_lt
    clear hcell
    generalize b[0] = x0 at *
    generalize b[1] = x1 at *
    generalize b[2] = x2 at *
    go_enter Tryz.func153, Tryz.ntmps153
    go_wp2_with fail
    go_quiet (fail)
    rw [len3_join _ _ _ ⟨by omega, by omega⟩ ⟨by omega, by omega⟩ ⟨by omega, by omega⟩, ← HL.out]
    have hn : len3 b < 16777216 := by have := HL.out; omega
    clear HL hx0 hx1 hx2 c0 c1 c2
    have HU := hid (show unframe b = if 65536 < len3 b then none else if b.length < len3 b + 7 then none else if word4 (crc (b.take (len3 b + 3))) = (b.drop (len3 b + 3)).take 4 then some ((b.drop 3).take (len3 b), len3 b + 7) else none by
      unfold unframe
      rw [if_neg h3])
    generalize len3 b = n at *
    by_cases h1 : 65536 < n
    · have HE := hid (HU.out.trans (if_pos h1))
      go_wp2_with fail
      go_ret3
      unfold UnPost
      rw [HE.out]
      exact ⟨4, by decide, rfl, (Mod.refl _ _).drewN _⟩
    · by_cases h2 : b.length < n + 7
      · have HE := hid (HU.out.trans ((if_neg h1).trans (if_pos h2)))
        go_wp2_with fail
        go_ret3
        unfold UnPost
        rw [HE.out]
        exact ⟨2, by decide, rfl, (Mod.refl _ _).drewN _⟩
      · have HE := hid (HU.out.trans ((if_neg h1).trans (if_neg h2)))
        clear HU
        have e0 := HC.out (n + 3) (by omega)
        have e1 := HC.out (n + 3 + 1) (by omega)
        have e2 := HC.out (n + 3 + 2) (by omega)
        have e3 := HC.out (n + 3 + 3) (by omega)
        have h4 := hid (show (b.drop (n + 3)).take 4 = [b[n + 3], b[n + 3 + 1], b[n + 3 + 2], b[n + 3 + 3]] by
          apply List.ext_getElem
          · simp; omega
          · intro i hi1 hi2
            simp only [List.length_cons, List.length_nil] at hi2
            rw [List.getElem_take, List.getElem_drop]
            match i, hi2 with
            | 0, _ => rfl
            | 1, _ => rfl
            | 2, _ => rfl
            | 3, _ => rfl)
        generalize b[n + 3] = y0 at *
        generalize b[n + 3 + 1] = y1 at *
        generalize b[n + 3 + 2] = y2 at *
        generalize b[n + 3 + 3] = y3 at *
        simp only [← Nat.add_assoc] at e0 e1 e2 e3
        have hat : ∀ w, (Instr.arrayAt 231 (.slice (some ⟨bb, off + ((n : Int) + 3).toNat, none⟩) (((n : Int) + 7).toNat - ((n : Int) + 3).toNat) (c - ((n : Int) + 3).toNat))).run Tryz.prog w = .ok (.pointer (some ⟨bb, off + ((n : Int) + 3).toNat, none⟩)) w := fun w => run_arrayAt w 231 _ 4 _ _ _ Tryz.underlying231 (by omega)
        have q0 : w.cell? ⟨bb, off + ((n : Int) + 3).toNat, none⟩ = some (.int .u8 y0.toNat) := e0
        have q1 : w.cell? ⟨bb, off + ((n : Int) + 3).toNat + 1, none⟩ = some (.int .u8 y1.toNat) := e1
        have q2 : w.cell? ⟨bb, off + ((n : Int) + 3).toNat + 2, none⟩ = some (.int .u8 y2.toNat) := e2
        have q3 : w.cell? ⟨bb, off + ((n : Int) + 3).toNat + 3, none⟩ = some (.int .u8 y3.toNat) := e3
        clear e0 e1 e2 e3
        obtain ⟨z0, z1, z2, z3, hz⟩ : ∃ z0 z1 z2 z3, word4 (crc (b.take (n + 3))) = [z0, z1, z2, z3] := ⟨_, _, _, _, rfl⟩
        have HW := hid (fun w => word_four w _ (crc_lt (b.take (n + 3))) hz)
        have HZ := hid hz
        clear hz
        have HS := hid (fun w' (hm : (w'.cell? ⟨bb, off + ((n : Int) + 3).toNat, none⟩ = some (.int .u8 y0.toNat) ∧ w'.cell? ⟨bb, off + ((n : Int) + 3).toNat + 1, none⟩ = some (.int .u8 y1.toNat) ∧ w'.cell? ⟨bb, off + ((n : Int) + 3).toNat + 2, none⟩ = some (.int .u8 y2.toNat) ∧ w'.cell? ⟨bb, off + ((n : Int) + 3).toNat + 3, none⟩ = some (.int .u8 y3.toNat)) ∧ Mod (fun _ => False) w w') => sum_any S w' _ _ (bytesV_take _ _ ▸ ((HV.out.mod hm.2 (by simp)).take (k := n + 3) (by omega))))
        have hq := fun w => eq4 w z0 z1 z2 z3 y0 y1 y2 y3
        have g1 : IntKind.i64.wrap ((n : Int) + 3) = (n : Int) + 3 := by rw [IntKind.wrap_i64]; omega
        have g2 : IntKind.i64.wrap ((n : Int) + 7) = (n : Int) + 7 := by rw [IntKind.wrap_i64]; omega
        have HM := hid (fun w' w'' (hm : (w'.cell? ⟨bb, off + ((n : Int) + 3).toNat, none⟩ = some (.int .u8 y0.toNat) ∧ w'.cell? ⟨bb, off + ((n : Int) + 3).toNat + 1, none⟩ = some (.int .u8 y1.toNat) ∧ w'.cell? ⟨bb, off + ((n : Int) + 3).toNat + 2, none⟩ = some (.int .u8 y2.toNat) ∧ w'.cell? ⟨bb, off + ((n : Int) + 3).toNat + 3, none⟩ = some (.int .u8 y3.toNat)) ∧ Mod (fun _ => False) w w') (mm : Mod (fun _ => False) w' w'') => show (w''.cell? ⟨bb, off + ((n : Int) + 3).toNat, none⟩ = some (.int .u8 y0.toNat) ∧ w''.cell? ⟨bb, off + ((n : Int) + 3).toNat + 1, none⟩ = some (.int .u8 y1.toNat) ∧ w''.cell? ⟨bb, off + ((n : Int) + 3).toNat + 2, none⟩ = some (.int .u8 y2.toNat) ∧ w''.cell? ⟨bb, off + ((n : Int) + 3).toNat + 3, none⟩ = some (.int .u8 y3.toNat)) ∧ Mod (fun _ => False) w w'' from ⟨⟨mm.cell hm.1.1 (by simp), mm.cell hm.1.2.1 (by simp), mm.cell hm.1.2.2.1 (by simp), mm.cell hm.1.2.2.2 (by simp)⟩, hm.2.trans mm (by simp)⟩)
        have f1 : (n : Int) + 3 ≤ (c : Int) := by omega
        have f2 : (n : Int) + 7 ≤ (c : Int) := by omega
        have f3 : (0 : Int) ≤ (n : Int) + 3 := by omega
        have f4 : (0 : Int) ≤ (n : Int) + 7 := by omega
        have f5 : (n : Int) + 3 ≤ (n : Int) + 7 := by omega
        go_wp2_with fail
        go_region_held3 (fun w' => (w'.cell? ⟨bb, off + ((n : Int) + 3).toNat, none⟩ = some (.int .u8 y0.toNat) ∧ w'.cell? ⟨bb, off + ((n : Int) + 3).toNat + 1, none⟩ = some (.int .u8 y1.toNat) ∧ w'.cell? ⟨bb, off + ((n : Int) + 3).toNat + 2, none⟩ = some (.int .u8 y2.toNat) ∧ w'.cell? ⟨bb, off + ((n : Int) + 3).toNat + 3, none⟩ = some (.int .u8 y3.toNat)) ∧ Mod (fun _ => False) w w')
          (first | exact ⟨⟨q0, q1, q2, q3⟩, ((Mod.refl _ w).drewN _).drew⟩ | assumption)
          (first
            | (go_at_call 170; refine (HS.out _ (by assumption)).mono ?_; rintro e w2 ⟨rfl, rfl⟩)
            | (go_at_call 169; refine (HW.out _).mono ?_; rintro e w3 ⟨rfl, mm⟩; have hS := HM.out _ _ (by assumption) mm; obtain ⟨⟨d0, d1, d2, d3⟩, m3⟩ := id hS))
        all_goals
          have M3 := hid m3
          clear m3 hS d0 d1 d2 d3 q0 q1 q2 q3 hat hq
          by_cases hy : [z0, z1, z2, z3] = [y0, y1, y2, y3]
          · have HF := hid (HE.out.trans (if_pos (by rw [HZ.out, h4.out, hy])))
            simp only [List.cons.injEq, and_true] at hy
            obtain ⟨rfl, rfl, rfl, rfl⟩ := hy
            rw [show (!z0 == z0 || (!z1 == z1 || (!z2 == z2 || !z3 == z3))) = false by simp]
            have HR := hid (rd_cut (HV.out.mod M3.out (by simp)) (lo := 3) (n := n) (by omega) (by omega))
            go_wp2_with (at_builtin; first
              | (refine wpList_append_rd _ rfl _ _ 87 rfl 5 i0 (.int .u8 0) 1 Tryz.underlying87 HI.out.1 HI.out.2.1 HI.out.2.2.1 HI.out.2.2.2 rfl (.slice none 0 0) 0 [] [] rfl (Own.nil _ _ _) S (.slice (some ⟨bb, off + 3, none⟩) (((n : Int) + 3).toNat - 3) (c - 3)) (bytesV ((b.drop 3).take n)) rfl HR.out (bytesV_one _) ?c1 ?c2 ?c3))
            case c1 => rw [bytesV_length, List.length_take]; omega
            case c2 => rw [bytesV_length, List.length_take]; unfold maxLen; omega
            case c3 =>
              intro v' w1 F' hown hu
              have HP := hid (And.intro hown hu)
              clear hown hu
              go_wp2_with fail
              go_ret3
              unfold UnPost
              rw [HF.out]
              refine ⟨v', F', rfl, ?_, Upd.new M3.out HP.out.2 (by simp)⟩
              have h := HP.out.1
              rw [bytesV_length] at h
              exact h
          · have HF := hid (HE.out.trans (if_neg (by rw [HZ.out, h4.out]; exact hy)))
            have hb : (!z0 == y0 || (!z1 == y1 || (!z2 == y2 || !z3 == y3))) = true := by
              rw [← Bool.not_eq_false]
              intro hf
              apply hy
              simp only [Bool.or_eq_false_iff, Bool.not_eq_false', beq_iff_eq] at hf
              obtain ⟨rfl, rfl, rfl, rfl⟩ := hf
              rfl
            clear hy
            rw [hb]
            go_wp2_with fail
            go_ret3
            unfold UnPost
            rw [HF.out]
            exact ⟨11, by decide, rfl, M3.out⟩
end Go.Proofs.YtdbhccehbjhbpaaGreatDoor

/- wire: a cursor over a payload. -/
namespace Go.Proofs.YtdbhccehbjhbpaaGreatDoor
open Go.RowKit

def curRes (q : Nat) (b : List UInt8) (at_ : Nat) (i : Nat × Value) : List Res := [rBlk q 223 #[.pointer (some ⟨i.1, 0, none⟩)], rBlk i.1 221 #[i.2, .int .i64 at_], rBytes i.2 b]
def rCur (q : Nat) (b : List UInt8) (at_ : Nat) : Res := rSome (fun _ : Nat × Value => True) (curRes q b at_)

section
variable {w0 w : World} {B : List Res} {q at_ : Nat} {b : List UInt8}
theorem Held.cur_open (h : Held w0 w (rCur q b at_ :: B)) : ∃ p v, Held w0 w (rBlk q 223 #[.pointer (some ⟨p, 0, none⟩)] :: rBlk p 221 #[v, .int .i64 at_] :: rBytes v b :: B) := by
  obtain ⟨⟨p, v⟩, -, h1⟩ := Held.open_some (l1 := []) h
  exact ⟨p, v, by simpa [curRes] using h1⟩
theorem Held.cur_shut {p : Nat} {v : Value} (h : Held w0 w (rBlk q 223 #[.pointer (some ⟨p, 0, none⟩)] :: rBlk p 221 #[v, .int .i64 at_] :: rBytes v b :: B)) : Held w0 w (rCur q b at_ :: B) :=
  Held.close_some (l1 := []) (q := fun _ : Nat × Value => True) (Rs' := curRes q b at_) (p, v) trivial (by simpa [curRes] using h)
end

set_option maxRecDepth 100000 in
theorem cfrom_held {w0 w : World} {B : List Res} (h : Held w0 w B) (S : Nat → Prop) (v : Value) (b : List UInt8) (hv : Rd S w v (bytesV b)) (hl : b.length ≤ 70368744177664) :
    Calls Tryz.prog 105 #[v] w fun e w' => ∃ q, e = .returned (.pointer (some ⟨q, 0, none⟩)) ∧ Held w0 w' (rCur q b 0 :: B) := by
  obtain ⟨i0, hi, hz0, hz1, hz2⟩ := info_parts Tryz.info5
  have HI := hid (And.intro hi (And.intro hz0 (And.intro hz1 hz2)))
  have HV := hid hv
  have HH := hid h
  clear hi hz0 hz1 hz2 hv h
  go_enter Tryz.func105, Tryz.ntmps105
  go_wp2_with (at_builtin; first
    | (refine wpList_append_rd _ rfl _ _ 87 rfl 5 i0 (.int .u8 0) 1 Tryz.underlying87 HI.out.1 HI.out.2.1 HI.out.2.2.1 HI.out.2.2.2 rfl (.slice none 0 0) 0 [] [] rfl (Own.nil _ _ _) S v (bytesV b) rfl HV.out (bytesV_one _) ?c1 ?c2 ?c3))
  case c1 => rw [bytesV_length]; omega
  case c2 => rw [bytesV_length]; unfold maxLen; omega
  case c3 =>
    intro v' w1 F' hown hu
    rw [bytesV_length] at hown
    have h1 := HH.out.more (R := rBytes v' b) (own_bytes (by simpa using hown)) hu
    have h2 := (h1.block 221 #[v', .int .i64 0])
    have h3 := (h2.block 223 #[.pointer (some ⟨w1.heap.size, 0, none⟩)])
    have HP := hid (Held.cur_shut h3)
    obtain ⟨A, c, rfl⟩ := hown.form
    clear hown hu h1 h2 h3
    go_wp2
    go_ret
    exact ⟨_, rfl, by simpa using HP.out⟩

theorem cmade_any (w : World) (q p : Nat) (hq : w.cell? ⟨q, 0, none⟩ = some (.pointer (some ⟨p, 0, none⟩))) :
    Calls Tryz.prog 158 #[.pointer (some ⟨q, 0, none⟩)] w fun e w' => e = .returned (.bool true) ∧ w' = w := by
  go_enter Tryz.func158, Tryz.ntmps158
  go_wp2
  go_ret
  exact ⟨rfl, rfl⟩
set_option maxRecDepth 100000 in
theorem cleft_any (w : World) (p : Nat) (A : Option Addr) (n c at_ : Nat) (h0 : w.cell? ⟨p, 0, none⟩ = some (.slice A n c)) (h1 : w.cell? ⟨p, 1, none⟩ = some (.int .i64 at_)) (hle : at_ ≤ n) (hn : n ≤ 9223372036854775807) :
    Calls Tryz.prog 159 #[.pointer (some ⟨p, 0, none⟩)] w fun e w' => e = .returned (.int .i64 ((n - at_ : Nat) : Int)) ∧ ∃ k, w' = w.drewN k := by
  have hs := hid (show IntKind.i64.wrap ((n : Int) - (at_ : Int)) = ((n - at_ : Nat) : Int) by rw [IntKind.wrap_i64]; omega)
  go_enter Tryz.func159, Tryz.ntmps159
  go_wp2_with fail
  go_quiet (fail)
  go_wp2_with fail
  go_ret
  refine ⟨?_, _, rfl⟩
  show Ending.returned (.int .i64 _) = _
  congr 2
  first | exact hs.out | omega

set_option maxRecDepth 100000 in
theorem cpeek_any (w : World) (q p : Nat) (A : Option Addr) (n c : Nat) (x : UInt8) (hx : x.toNat ≤ 247) (hq : w.cell? ⟨q, 0, none⟩ = some (.pointer (some ⟨p, 0, none⟩))) (h0 : w.cell? ⟨p, 0, none⟩ = some (.slice A n c)) (h1 : w.cell? ⟨p, 1, none⟩ = some (.int .i64 0))
    (hn : 0 < n) (hm : n ≤ 9223372036854775807) {bb off : Nat} (hA : A = some ⟨bb, off, none⟩) (hc : w.cell? ⟨bb, off, none⟩ = some (.int .u8 x.toNat)) :
    Calls Tryz.prog 195 #[.pointer (some ⟨q, 0, none⟩)] w fun e w' => e = .returned (.tuple #[.int .i64 x.toNat, .int .i64 1, .int .i64 0]) ∧ ∃ k, w' = w.drewN k := by
  subst hA
  have HM := hid (cmade_any w q p hq)
  have HL := hid (cleft_any w p _ n c 0 h0 h1 (Nat.zero_le _) hm)
  rw [Nat.sub_zero] at HL
  have hn0 : (0 : Int) < (n : Int) := by omega
  have hn1 : ¬ ((n : Int) = 0) := by omega
  go_enter Tryz.func195, Tryz.ntmps195
  go_wp2_with (first
    | (go_at_call 158; refine HM.out.mono ?_; rintro e w' ⟨rfl, rfl⟩)
    | (go_at_call 159; refine HL.out.mono ?_; rintro e w' ⟨rfl, k1, rfl⟩))
  go_quiet (fail)
  go_wp2_with fail
  go_ret3
  exact ⟨rfl, _, rfl⟩

set_option maxRecDepth 100000 in
theorem cnumber_held {w0 w : World} {B : List Res} {q : Nat} {x : UInt8} {r : List UInt8} (h : Held w0 w (rCur q (x :: r) 0 :: B)) (hx : x.toNat ≤ 247) :
    Calls Tryz.prog 154 #[.pointer (some ⟨q, 0, none⟩)] w fun e w' => e = .returned (.tuple #[.int .i64 x.toNat, .int .i64 0]) ∧ Held w0 w' (rCur q (x :: r) 1 :: B) := by
  obtain ⟨p, v, h1⟩ := h.cur_open
  have c1 : w.cell? ⟨q, 0, none⟩ = some (.pointer (some ⟨p, 0, none⟩)) := h1.blk0.cell rfl
  have b2 := h1.pull1.blk0
  have c3 : w.cell? ⟨p, 1, none⟩ = some (.int .i64 0) := b2.cell rfl
  have c2 : w.cell? ⟨p, 0, none⟩ = some v := b2.cell rfl
  have hr := Held.bytes (l1 := [_, _]) h1
  obtain ⟨A, c, rfl, hc, hm⟩ := Held.form (l1 := [_, _]) h1
  obtain ⟨bb, off, rfl, -, hcell⟩ := rd_at hr (k := 0) (by simp)
  have HP := hid (cpeek_any w q p _ (x :: r).length c x hx c1 c2 c3 (by simp) (by omega) rfl (hcell 0 (by simp)))
  have HH := hid (fun k => ((h1.drewN k).pull1.store (l1 := []) 1 (.int .i64 1)).push1.cur_shut)
  have f2 := b2.frozen 1
  clear h h1 hr hcell b2
  go_enter Tryz.func154, Tryz.ntmps154
  go_wp2_with (first
    | (go_at_call 195; refine HP.out.mono ?_; rintro e w' ⟨rfl, k1, rfl⟩))
  go_ret2
  exact ⟨rfl, HH.out k1⟩

theorem rd_from {S : Nat → Prop} {w : World} {bb off m c : Nat} {b : List UInt8} (h : Rd S w (.slice (some ⟨bb, off, none⟩) m c) (bytesV b)) {lo : Nat} (hlo : lo ≤ b.length) (hp : lo ≠ 0) :
    Rd S w (.slice (if c = lo then some ⟨bb, off, none⟩ else some ⟨bb, off + lo, none⟩) (m - lo) (c - lo)) (bytesV (b.drop lo)) := by
  have hm : m = b.length := by obtain ⟨A', c', hv, -⟩ := h; injection hv with e1 e2 e3; rw [e2, bytesV_length]
  have h1 := Rd.drop h (k := lo) (by omega)
  rw [← bytesV_drop] at h1
  simpa [Addr.add, hp] using h1

set_option maxRecDepth 100000 in
theorem crest_held {w0 w : World} {B : List Res} {q : Nat} {x : UInt8} {r : List UInt8} (h : Held w0 w (rCur q (x :: r) 1 :: B)) (hl : r.length ≤ 1099511627776) :
    Calls Tryz.prog 155 #[.pointer (some ⟨q, 0, none⟩)] w fun e w' => ∃ v', e = .returned v' ∧ Held w0 w' (rBytes v' r :: B) := by
  obtain ⟨p, v, h1⟩ := h.cur_open
  have c1 : w.cell? ⟨q, 0, none⟩ = some (.pointer (some ⟨p, 0, none⟩)) := h1.blk0.cell rfl
  have b2 := h1.pull1.blk0
  have c3 : w.cell? ⟨p, 1, none⟩ = some (.int .i64 1) := b2.cell rfl
  have c2 : w.cell? ⟨p, 0, none⟩ = some v := b2.cell rfl
  have hr := Held.bytes (l1 := [_, _]) h1
  obtain ⟨A, c, rfl, hc, hm⟩ := Held.form (l1 := [_, _]) h1
  obtain ⟨bb, off, rfl, -, hcell⟩ := rd_at hr (k := 0) (by simp)
  have HM := hid (cmade_any w q p c1)
  have hr1 := rd_from hr (lo := 1) (by simp) (by decide)
  have f2 := b2.frozen 1
  obtain ⟨i0, hi, hz0, hz1, hz2⟩ := info_parts Tryz.info5
  have HI := hid (And.intro hi (And.intro hz0 (And.intro hz1 hz2)))
  have HR := hid hr1
  have HH := hid (Held.nil_own h1 5)
  have hc1 : (1 : Int) ≤ (c : Int) := by simp at hc; omega
  rw [show (x :: r).length = r.length + 1 from rfl] at *
  have hc2 : (1 : Int) ≤ (r.length : Int) + 1 := by omega
  have hc3 : (r.length : Int) + 1 ≤ (c : Int) := by omega
  clear h h1 hr hcell b2 hi hz0 hz1 hz2 hr1
  go_enter Tryz.func155, Tryz.ntmps155
  go_wp2_with (first
    | (go_at_call 158; refine HM.out.mono ?_; rintro e w' ⟨rfl, rfl⟩))
  go_region_held3 (fun w' => w'.cell? ⟨q, 0, none⟩ = some (.pointer (some ⟨p, 0, none⟩)) ∧ w'.cell? ⟨p, 1, none⟩ = some (.int .i64 1) ∧ w'.cell? ⟨p, 0, none⟩ = some (.slice (some ⟨bb, off, none⟩) (r.length + 1) c))
    (first | exact ⟨c1, c3, c2⟩ | exact ⟨d1, d3, d2⟩)
    (first
      | (refine step_append_held [] _ rfl _ _ 87 rfl 5 i0 (.int .u8 0) 1 Tryz.underlying87 HI.out.1 HI.out.2.1 HI.out.2.2.1 HI.out.2.2.2 rfl (.slice none 0 0) [] rfl (HH.out.step ((Mod.refl _ _).drew)) (fun _ => True) _ (bytesV r) rfl HR.out.drew (bytesV_one _) (by rw [bytesV_length]; simp; omega) (by rw [bytesV_length]; unfold maxLen; simp; omega) ?_; intro A' c' w4 q1 q2 g4; simp only [List.nil_append, List.length_nil, Nat.zero_add] at g4; have d1 : w4.cell? ⟨q, 0, none⟩ = some (.pointer (some ⟨p, 0, none⟩)) := g4.pull1.blk0.cell rfl; have b4 := g4.pull2.blk0; have d3 : w4.cell? ⟨p, 1, none⟩ = some (.int .i64 1) := b4.cell rfl; have d2 : w4.cell? ⟨p, 0, none⟩ = some (.slice (some ⟨bb, off, none⟩) (r.length + 1) c) := b4.cell rfl; have f4 := b4.frozen 1; have g5 := Held.store (l1 := []) (Held.drew g4).pull2 1 (.int .i64 ((r.length : Int) + 1)); have g6 := Held.drop0 g5; have HS := hid (g6.pull1.drop0.pull1.drop0); clear g4 g5 g6 b4))
  generalize (if c = 1 then (some ⟨bb, off, none⟩ : Option Addr) else some ⟨bb, off + 1, none⟩) = uu
  go_wp2_with fail
  go_region
  all_goals
    go_wp2_with fail
    go_ret
    exact ⟨.slice A' (bytesV r).length c', rfl, HS.out⟩
end Go.Proofs.YtdbhccehbjhbpaaGreatDoor
