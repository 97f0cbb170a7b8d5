/- kvstore: a law. (Several texts in one file, by mz.py.) -/
import Derived.Test.YtdbhccehbjhbpaaGreatDoorTN
import Derived.Test.YtdbhccehbjhbpaaGreatDoorKP
import Derived.BigQuiet
import Derived.Deep.QuietTactic
import Derived.Test.YtdbhccehbjhbpaaGreatDoorT26
import Derived.Test.YtdbhccehbjhbpaaGreatDoorT8

/- the reference, wire: Form, Number, Text. -/
namespace Go.Proofs.YtdbhccehbjhbpaaGreatDoor
open Go.RowKit
open Slog (numB)

/-- append of bytes that can be read onto bytes that are owned. -/
theorem wpl_app {w0 w : World} {ops : Array Oper} {rest : List Oper} {o : Oper} {a : Act} {Q : Exit → Act → World → Prop} {B : List Res} (hgd : o.guard = none) (s x : Operand)
    (ho : o.op = .call { callee := .builtin .append, args := #[s, x], argTypes := #[87, 87] })
    (v : Value) (l1 : List UInt8) (hs : a.eval s = v) (hh : Held w0 w (rBytes v l1 :: B)) (S : Nat → Prop) (u : Value) (l2 : List UInt8) (hx : a.eval x = u) (hr : Rd S w u (bytesV l2)) (hb : l1.length + l2.length ≤ 1000000000000)
    (h : ∀ A c w', Held w0 w' (rBytes (.slice A (l1.length + l2.length) c) (l1 ++ l2) :: B) → wpList Tryz.prog ops Q rest (a.put o.dst (.slice A (l1.length + l2.length) c)) w') : wpList Tryz.prog ops Q (o :: rest) a w := by
  obtain ⟨i0, hi, hz0, hz1, hz2⟩ := info_parts Tryz.info5
  refine wpList_append_held [] B hgd s x 87 ho 5 i0 (.int .u8 0) 1 Tryz.underlying87 hi hz0 hz1 hz2 rfl v (bytesV l1) hs hh S u (bytesV l2) hx hr (bytesV_one _) ?_ ?_ ?_
  · rw [bytesV_length, bytesV_length]; omega
  · rw [bytesV_length, bytesV_length]; unfold maxLen; omega
  · intro A c w' _ _ g
    rw [bytesV_length, bytesV_length] at g ⊢
    refine h A c w' ?_
    unfold rBytes
    rw [bytesV_append]
    exact g
/-- append of bytes onto nothing: a fresh row. -/
theorem wpl_app0 {w0 w : World} {ops : Array Oper} {rest : List Oper} {o : Oper} {a : Act} {Q : Exit → Act → World → Prop} {B : List Res} (hgd : o.guard = none) (s x : Operand)
    (ho : o.op = .call { callee := .builtin .append, args := #[s, x], argTypes := #[87, 87] })
    (hs : a.eval s = .slice none 0 0) (hh : Held w0 w B) (S : Nat → Prop) (u : Value) (l2 : List UInt8) (hx : a.eval x = u) (hr : Rd S w u (bytesV l2)) (hb : l2.length ≤ 1000000000000)
    (h : ∀ A c w', Held w0 w' (rBytes (.slice A l2.length c) l2 :: B) → wpList Tryz.prog ops Q rest (a.put o.dst (.slice A l2.length c)) w') : wpList Tryz.prog ops Q (o :: rest) a w :=
  wpl_app hgd s x ho _ [] hs (Held.nil_own hh 5) S u l2 hx hr (by simpa using hb) fun A c w' g => by
    rw [List.length_nil, Nat.zero_add] at g ⊢
    exact h A c w' (by simpa using g)
/-- append of a text onto bytes that are owned. -/
theorem wpl_appT {w0 w : World} {ops : Array Oper} {rest : List Oper} {o : Oper} {a : Act} {Q : Exit → Act → World → Prop} {B : List Res} (hgd : o.guard = none) (s x : Operand)
    (ho : o.op = .call { callee := .builtin .append, args := #[s, x], argTypes := #[87, 9] })
    (v : Value) (l1 : List UInt8) (hs : a.eval s = v) (hh : Held w0 w (rBytes v l1 :: B)) (l2 : List UInt8) (hx : a.eval x = sv l2) (hb : l1.length + l2.length ≤ 1000000000000)
    (h : ∀ A c w', Held w0 w' (rBytes (.slice A (l1.length + l2.length) c) (l1 ++ l2) :: B) → wpList Tryz.prog ops Q rest (a.put o.dst (.slice A (l1.length + l2.length) c)) w') : wpList Tryz.prog ops Q (o :: rest) a w := by
  obtain ⟨i0, hi, hz0, hz1, hz2⟩ := info_parts Tryz.info5
  refine wpList_append_text [] B hgd s x 87 9 ho 5 i0 Tryz.underlying87 Tryz.underlying9 hi hz0 hz1 hz2 v (bytesV l1) hs hh l2 hx ?_ ?_ ?_
  · rw [bytesV_length]; unfold maxLen; omega
  · rw [bytesV_length]; omega
  · intro A c w' g
    rw [bytesV_length] at g ⊢
    refine h A c w' ?_
    unfold rBytes
    rw [bytesV_append]
    exact g
/-- a literal of bytes. -/
theorem Held.built {w0 w : World} {B : List Res} (h : Held w0 w B) (l : List UInt8) (hl : l.length ≤ 1000000) : Held w0 (w.alloc (.cells (bytesV l).toArray 5)) (rBytes (.slice (some ⟨w.heap.size, 0, none⟩) l.length l.length) l :: B) := by
  have h1 := own_built 5 w (bytesV l) (by rw [bytesV_length]; unfold maxLen; omega)
  rw [bytesV_length] at h1
  exact h.more (own_bytes h1) (upd_built w _)
end Go.Proofs.YtdbhccehbjhbpaaGreatDoor

/- the reference, wire: Form, Number, Text. -/
namespace Go.Proofs.YtdbhccehbjhbpaaGreatDoor
open Go.RowKit
open Slog (numB)

section
variable {w0 w : World} {B : List Res}
set_option maxRecDepth 100000 in
theorem rform_one (h : Held w0 w B) (n : Nat) (hn : n < 248) :
    Calls Tryz.prog 89 #[.int .i64 n] w fun e w' => ∃ v', e = .returned v' ∧ Held w0 w' (rBytes v' (numB n) :: B) := by
  have HB := hid (h.built [UInt8.ofNat n] (by simp))
  have hv : bytesV [UInt8.ofNat n] = [.int .u8 n] := by unfold bytesV; simp; omega
  rw [hv] at HB
  have e1 : ¬ ((n : Int) < 0) := by omega
  have e2 : (n : Int) < 248 := by omega
  rw [show numB n = [UInt8.ofNat n] by unfold numB; rw [if_pos (by omega)]]
  clear h hv
  go_enter Tryz.func89, Tryz.ntmps89
  go_wp2_with fail
  go_ret
  exact ⟨_, rfl, HB.out⟩
theorem byte_built (n : Nat) (hn : n < 256) : bytesV [UInt8.ofNat n] = [.int .u8 n] := by unfold bytesV; simp; omega
theorem Held.built1 (h : Held w0 w B) (n : Nat) (hn : n < 256) : Held w0 (w.alloc (.cells #[.int .u8 n] 5)) (rBytes (.slice (some ⟨w.heap.size, 0, none⟩) 1 1) [UInt8.ofNat n] :: B) := by
  have := h.built [UInt8.ofNat n] (by simp)
  rw [byte_built n hn] at this
  exact this
theorem asz (w : World) (o : Obj) : (w.alloc o).heap.size = w.heap.size + 1 := by
  show (w.heap.push o).size = _
  rw [Array.size_push]
/-- a literal of one byte. -/
theorem Held.lit1 (h : Held w0 w B) (x : UInt8) {z : Int} (hz : (x.toNat : Int) = z) {b : Nat} (hb : w.heap.size = b) : Held w0 (w.alloc (.cells #[.int .u8 z] 5)) (rBytes (.slice (some ⟨b, 0, none⟩) 1 1) [x] :: B) := by
  have := h.built [x] (by simp)
  rw [show bytesV [x] = [.int .u8 z] by unfold bytesV; simp [hz]] at this
  rw [hb] at this
  exact this
set_option maxRecDepth 100000 in
theorem rform_two (h : Held w0 w B) (n : Nat) (hn : 248 ≤ n) (hn2 : n < 256) :
    Calls Tryz.prog 89 #[.int .i64 n] w fun e w' => ∃ v', e = .returned v' ∧ Held w0 w' (rBytes v' (numB n) :: B) := by
  have HB := hid (h.built1 n (by omega))
  have e1 : ¬ ((n : Int) < 0) := by omega
  have e2 : ¬ ((n : Int) < 248) := by omega
  have e3 : (n : Int) / 256 = 0 := by omega
  have e4 : (n : Int) % 256 = (n : Int) := by omega
  have e5 : (0 : Nat) < n := by omega
  have HN := hid (show numB n = [UInt8.ofNat 248] ++ [UInt8.ofNat n] by rcases numB_forms n (by omega) with ⟨h1, -⟩ | ⟨-, -, h2⟩ | ⟨h1, -⟩ <;> first | omega | exact h2)
  rw [HN.out]
  clear h
  go_enter Tryz.func89, Tryz.ntmps89
  go_wp2_with fail
  refine wp_loop_rounds 2 ?_
  rw [rounds_succ]
  go_wp2_with fail
  rw [rounds_succ]
  go_wp2_with (at_builtin; refine wpl_app rfl _ _ rfl _ _ rfl (HB.out.lit1 248 rfl (asz _ _)) (fun _ => True) _ _ rfl (Held.bytes (l1 := [_]) (HB.out.lit1 248 rfl (asz _ _))) (by simp) ?c1)
  case c1 =>
    intro A c w1 g
    have G := hid g
    clear g
    go_wp2_with fail
    go_ret
    exact ⟨_, rfl, G.out.pull1.drop0⟩
set_option maxRecDepth 100000 in
theorem rform_three (h : Held w0 w B) (n : Nat) (hn : 256 ≤ n) (hn2 : n < 65536) :
    Calls Tryz.prog 89 #[.int .i64 n] w fun e w' => ∃ v', e = .returned v' ∧ Held w0 w' (rBytes v' (numB n) :: B) := by
  obtain ⟨m, hm⟩ : ∃ m, m = n / 256 := ⟨_, rfl⟩
  obtain ⟨r, hr⟩ : ∃ r, r = n % 256 := ⟨_, rfl⟩
  have HB := hid (h.built1 r (by omega))
  have e1 : ¬ ((n : Int) < 0) := by omega
  have e2 : ¬ ((n : Int) < 248) := by omega
  have e3 : (n : Int) / 256 = (m : Int) := by omega
  have e4 : (n : Int) % 256 = (r : Int) := by omega
  have e5 : (0 : Nat) < n := by omega
  have e6 : (m : Int) / 256 = 0 := by omega
  have e7 : (m : Int) % 256 = (m : Int) := by omega
  have e8 : (0 : Nat) < m := by omega
  have hm2 : m < 256 := by omega
  have HMM := hid (show ((UInt8.ofNat m).toNat : Int) = (m : Int) by rw [ofNat_toNat hm2])
  have HN := hid (show numB n = [UInt8.ofNat 249] ++ ([UInt8.ofNat m] ++ [UInt8.ofNat r]) by
    rcases numB_forms n (by omega) with ⟨h1, -⟩ | ⟨-, h1, -⟩ | ⟨-, h2⟩
    · omega
    · omega
    · rw [h2, hm, hr]
      have : UInt8.ofNat (n % 256) = UInt8.ofNat n := by apply UInt8.toNat_inj.1; simp
      rw [this]
      rfl)
  rw [HN.out]
  clear h hm hr
  go_enter Tryz.func89, Tryz.ntmps89
  go_wp2_with fail
  refine wp_loop_rounds 3 ?_
  rw [rounds_succ]
  go_wp2_with fail
  rw [rounds_succ]
  go_wp2_with (at_builtin; refine wpl_app rfl _ _ rfl _ _ rfl (HB.out.lit1 (UInt8.ofNat m) HMM.out (asz _ _)) (fun _ => True) _ _ rfl (Held.bytes (l1 := [_]) (HB.out.lit1 (UInt8.ofNat m) HMM.out (asz _ _))) (by simp) ?c1)
  case c1 =>
    intro A c w1 g
    have G := hid g.pull1.drop0
    clear g
    go_wp2_with fail
    rw [rounds_succ]
    go_wp2_with (at_builtin; refine wpl_app rfl _ _ rfl _ _ rfl (G.out.lit1 249 rfl rfl) (fun _ => True) _ _ rfl (Held.bytes (l1 := [_]) (G.out.lit1 249 rfl rfl)) (by simp) ?c2)
    case c2 =>
      intro A2 c2 w2 g
      have G2 := hid g
      clear g
      go_wp2_with fail
      go_ret
      exact ⟨_, rfl, G2.out.pull1.drop0⟩
end
end Go.Proofs.YtdbhccehbjhbpaaGreatDoor

/- the reference, wire: Number, Text, high, Sum, Frame. -/
namespace Go.Proofs.YtdbhccehbjhbpaaGreatDoor
open Go.RowKit
open Slog (numB)

section
variable {w0 w : World} {B : List Res}
theorem rform_held (h : Held w0 w B) (n : Nat) (hn : n < 65536) :
    Calls Tryz.prog 89 #[.int .i64 n] w fun e w' => ∃ v', e = .returned v' ∧ Held w0 w' (rBytes v' (numB n) :: B) := by
  rcases Nat.lt_or_ge n 248 with h1 | h1
  · exact rform_one h n h1
  · rcases Nat.lt_or_ge n 256 with h2 | h2
    · exact rform_two h n h1 h2
    · exact rform_three h n h2 hn
/-- an empty literal. -/
theorem Held.lit0 (h : Held w0 w B) {b : Nat} (hb : w.heap.size = b) : Held w0 (w.alloc (.cells #[] 5)) (rBytes (.slice (some ⟨b, 0, none⟩) 0 0) [] :: B) := by
  have := h.built [] (by simp)
  rw [hb] at this
  exact this
set_option maxRecDepth 100000 in
theorem rnumber_held (h : Held w0 w B) (S : Nat → Prop) (A : Option Addr) (c : Nat) (l : List UInt8) (hv : Rd S w (.slice A l.length c) (bytesV l)) (hl : l.length ≤ 10000000000) (n : Nat) (hn : n < 65536) :
    Calls Tryz.prog 50 #[.slice A l.length c, .int .i64 n] w fun e w' => ∃ v', e = .returned v' ∧ Held w0 w' (rBytes v' (l ++ numB n) :: B) := by
  have H0 := hid (h.lit0 rfl)
  have HV := hid (hv.alloc (.cells #[] 5))
  have HF := hid (fun w1 v1 (g1 : Held w0 w1 (rBytes v1 l :: B)) => rform_held g1 n hn)
  have hnl := Kv.numB_len hn
  clear h hv
  go_enter Tryz.func50, Tryz.ntmps50
  go_wp2_with (at_builtin; refine wpl_app rfl _ _ rfl _ _ rfl H0.out S _ _ rfl HV.out (by simp; omega) ?c1)
  case c1 =>
    intro A1 c1 w1 g
    have G := hid g
    clear g H0 HV
    go_wp2_with (first
      | (go_at_call 89; refine (HF.out _ _ G.out).mono ?_; rintro e w2 ⟨v2, rfl, g2⟩; obtain ⟨A2, c2, rfl, -, -⟩ := Held.form (l1 := []) g2; have G2 := hid g2; clear g2 HF)
      | (at_builtin; refine wpl_app rfl _ _ rfl _ _ rfl G2.out.pull1 (fun _ => True) _ _ rfl (Held.bytes (l1 := []) G2.out) (by omega) ?c2))
    case c2 =>
      intro A3 c3 w3 g3
      have G3 := hid g3
      clear g3 G2
      go_wp2_with fail
      go_ret
      exact ⟨_, rfl, G3.out.pull1.drop0⟩
set_option maxRecDepth 100000 in
theorem rtext_held (h : Held w0 w B) (S : Nat → Prop) (A : Option Addr) (c : Nat) (l : List UInt8) (hv : Rd S w (.slice A l.length c) (bytesV l)) (hl : l.length ≤ 1000000000) (s : List UInt8) (hs : s.length < 65536) :
    Calls Tryz.prog 52 #[.slice A l.length c, sv s] w fun e w' => ∃ v', e = .returned v' ∧ Held w0 w' (rBytes v' (l ++ (numB s.length ++ s)) :: B) := by
  have HN := hid (rnumber_held h S A c l hv (by omega) s.length hs)
  have hsz : (ByteArray.mk s.toArray).size = s.length := by simp [ByteArray.size]
  have hnl := Kv.numB_len hs
  have HL := hid (show (l ++ numB s.length).length + s.length ≤ 1000000000000 by rw [List.length_append]; omega)
  rw [← List.append_assoc]
  generalize l ++ numB s.length = r at *
  unfold sv
  clear h hv hnl
  go_enter Tryz.func52, Tryz.ntmps52
  go_wp2_with (first
    | (go_at_call 50; refine HN.out.mono ?_; rintro e w2 ⟨v2, rfl, g2⟩; obtain ⟨A2, c2, rfl, -, -⟩ := Held.form (l1 := []) g2; have G2 := hid g2; clear g2 HN)
    | (at_builtin; refine wpl_appT rfl _ _ rfl _ _ rfl G2.out s rfl HL.out ?c2))
  case c2 =>
    intro A3 c3 w3 g3
    have G3 := hid g3
    clear g3 G2
    go_wp2_with fail
    go_ret
    exact ⟨_, rfl, G3.out⟩
theorem xor_i64 (a b : Nat) (ha : a < 4294967296) (hb : b < 4294967296) : bits .xor .i64 (a : Int) (b : Int) = ((a ^^^ b : Nat) : Int) ∧ a ^^^ b < 4294967296 := by
  have hx : a ^^^ b < 2 ^ 32 := Nat.xor_lt_two_pow (by omega) (by omega)
  have h1 : (BitVec.ofInt 64 (a : Int)).toNat = a := by
    rw [BitVec.ofInt_natCast, BitVec.toNat_ofNat]; exact Nat.mod_eq_of_lt (by omega)
  have h2 : (BitVec.ofInt 64 (b : Int)).toNat = b := by
    rw [BitVec.ofInt_natCast, BitVec.toNat_ofNat]; exact Nat.mod_eq_of_lt (by omega)
  refine ⟨?_, by omega⟩
  show IntKind.i64.wrap ((BitVec.ofInt 64 (a : Int) ^^^ BitVec.ofInt 64 (b : Int)).toNat : Int) = _
  rw [BitVec.toNat_xor, h1, h2, IntKind.wrap_i64]
  omega
set_option maxRecDepth 100000 in
theorem rsum_any {S : Nat → Prop} (w : World) (A : Option Addr) (c : Nat) (l : List UInt8) (hv : Rd S w (.slice A l.length c) (bytesV l)) :
    Calls Tryz.prog 188 #[.slice A l.length c] w fun e w' => ∃ s : Nat, s < 4294967296 ∧ e = .returned (.int .u32 s) ∧ w' = w := by
  have HV := hid hv
  have hnm : l.length ≤ 9223372036854775807 := by obtain ⟨A', c', e1, h1, h2, -⟩ := hv; rw [bytesV_length] at h1; unfold maxLen at h2; omega
  obtain ⟨n, hn⟩ : ∃ n, n = l.length := ⟨_, rfl⟩
  have HN := hid hn
  rw [← hn] at HV hnm ⊢
  clear hv hn
  go_enter Tryz.func188, Tryz.ntmps188
  go_wp2_with fail
  go_loopw [3, 9] (fun cv iv wr => ∃ k z : Nat, k ≤ n ∧ iv = .int .i64 k ∧ cv = .int .i64 z ∧ z < 4294967296 ∧ wr = w) (fun _ iv _ => n - (intOf iv).toNat)
  case atStart => exact ⟨0, 4294967295, Nat.zero_le _, rfl, rfl, by omega, rfl⟩
  case round =>
    obtain ⟨k, z, hk, rfl, rfl, hz, rfl⟩ := hrel
    by_cases hlt : k < n
    · obtain ⟨bb, off, e1, -, hcell⟩ := rd_at HV.out (k := k) (by rw [← HN.out]; exact hlt)
      subst e1
      have hkl : k < l.length := by rw [← HN.out]; exact hlt
      have hc := hcell k hkl
      have hx := (l[k]).toNat_lt
      obtain ⟨x1, x2⟩ := xor_i64 z (l[k]).toNat hz (by omega)
      generalize l[k] = x at *
      have hw : wrap64 (x.toNat : Int) = (x.toNat : Int) := by unfold wrap64; omega
      have hltn : (k : Int) < (n : Int) := by omega
      have hk0 : (0 : Int) ≤ (k : Int) := by omega
      clear hcell
      generalize z ^^^ x.toNat = z1 at *
      go_wp2_with fail
      clear x1 hc hw
      go_loopw [3, 17] (fun cv iv wr2 => ∃ j y : Nat, j ≤ 8 ∧ iv = .int .i64 j ∧ cv = .int .i64 y ∧ y < 4294967296 ∧ wr2 = wr) (fun _ iv _ => 8 - (intOf iv).toNat)
      case atStart => exact ⟨0, z1, Nat.zero_le _, rfl, rfl, x2, rfl⟩
      case round =>
        obtain ⟨j, y, hj, rfl, rfl, hy, rfl⟩ := hrel
        by_cases hj8 : j < 8
        · have hjn : (j : Int) < 8 := by omega
          have hq : (y : Int) / 2 = ((y / 2 : Nat) : Int) := by omega
          obtain ⟨q1, q2⟩ := xor_i64 (y / 2) 2197175160 (by omega) (by omega)
          have q1' : bits .xor .i64 ((y / 2 : Nat) : Int) 2197175160 = ((y / 2 ^^^ 2197175160 : Nat) : Int) := q1
          generalize hy1 : y / 2 ^^^ 2197175160 = y1 at *
          have hy2 : y / 2 < 4294967296 := by omega
          generalize y / 2 = y2 at *
          clear q1
          by_cases hodd : (y : Int) % 2 = 1
          · go_wp2_with fail
            exact ⟨⟨j + 1, y1, by omega, by congr 1, rfl, q2, by first | rfl | trivial⟩, by show 8 - ((j : Int) + 1).toNat < 8 - (j : Int).toNat; omega⟩
          · have hob : ((y : Int) % 2 == 1) = false := by rw [beq_eq_false_iff_ne]; exact hodd
            go_wp2_with fail
            exact ⟨⟨j + 1, y2, by omega, by congr 1, rfl, hy2, by first | rfl | trivial⟩, by show 8 - ((j : Int) + 1).toNat < 8 - (j : Int).toNat; omega⟩
        · have hjn : ¬ ((j : Int) < 8) := by omega
          go_wp2_with fail
          exact ⟨⟨k + 1, y, by omega, by simp, rfl, hy, by first | rfl | trivial⟩, by show n - ((k : Int) + 1).toNat < n - (k : Int).toNat; omega⟩
    · have hltn : ¬ ((k : Int) < (n : Int)) := by omega
      obtain ⟨q1, q2⟩ := xor_i64 z 4294967295 hz (by omega)
      have q1' : bits .xor .i64 (z : Int) 4294967295 = ((z ^^^ 4294967295 : Nat) : Int) := q1
      have q3 : ((z ^^^ 4294967295 : Nat) : Int) % 4294967296 = ((z ^^^ 4294967295 : Nat) : Int) := by omega
      generalize z ^^^ 4294967295 = y at *
      go_wp2_with fail
      go_ret
      exact ⟨y, q2, rfl, rfl⟩

/-- a byte of a number. -/
theorem byte_z (x : Nat) : (((UInt8.ofNat (x % 256)).toNat : Nat) : Int) = (x : Int) % 256 := by
  rw [ofNat_toNat (by omega)]
  omega
set_option maxRecDepth 100000 in
set_option maxHeartbeats 1000000 in
theorem rhigh3 (h : Held w0 w B) (n : Nat) (hn : n < 4294967296) :
    Calls Tryz.prog 187 #[.int .i64 n, .int .i64 3] w fun e w' => ∃ v' l, e = .returned v' ∧ l.length = 3 ∧ Held w0 w' (rBytes v' l :: B) := by
  have H0 := hid h
  have HZ0 := hid (show ((UInt8.ofNat (n / 65536 % 256)).toNat : Int) = (n : Int) / 65536 % 256 by have := byte_z (n / 65536); rw [this]; omega)
  have HZ1 := hid (show ((UInt8.ofNat (n / 256 % 256)).toNat : Int) = (n : Int) / 256 % 256 by have := byte_z (n / 256); rw [this]; omega)
  have HZ2 := hid (show ((UInt8.ofNat (n % 256)).toNat : Int) = (n : Int) % 256 from byte_z n)
  generalize UInt8.ofNat (n / 65536 % 256) = x0 at *
  generalize UInt8.ofNat (n / 256 % 256) = x1 at *
  generalize UInt8.ofNat (n % 256) = x2 at *
  clear h
  go_enter Tryz.func187, Tryz.ntmps187
  go_wp2_with fail
  refine wp_loop_rounds 4 ?_
  rw [rounds_succ]
  go_wp2_with (at_builtin; refine wpl_app0 rfl _ _ rfl rfl (H0.out.lit1 x0 HZ0.out rfl) (fun _ => True) _ [x0] rfl (Held.bytes (l1 := []) (H0.out.lit1 x0 HZ0.out rfl)) (by simp) ?c0)
  case c0 =>
    intro A0 c0 w1 g
    have G0 := hid g.pull1.drop0
    clear g H0
    go_wp2_with fail
    rw [rounds_succ]
    go_wp2_with (at_builtin; refine wpl_app rfl _ _ rfl _ _ rfl (G0.out.lit1 x1 HZ1.out rfl).pull1 (fun _ => True) _ [x1] rfl (Held.bytes (l1 := []) (G0.out.lit1 x1 HZ1.out rfl)) (by simp) ?c1)
    case c1 =>
      intro A1 c1 w2 g
      have G1 := hid g.pull1.drop0
      clear g G0
      go_wp2_with fail
      rw [rounds_succ]
      go_wp2_with (at_builtin; refine wpl_app rfl _ _ rfl _ _ rfl (G1.out.lit1 x2 HZ2.out rfl).pull1 (fun _ => True) _ [x2] rfl (Held.bytes (l1 := []) (G1.out.lit1 x2 HZ2.out rfl)) (by simp) ?c2)
      case c2 =>
        intro A2 c2 w3 g
        have G2 := hid g.pull1.drop0
        clear g G1
        go_wp2_with fail
        rw [rounds_succ]
        go_wp2_with fail
        go_ret
        exact ⟨_, _, rfl, by simp, G2.out⟩
set_option maxRecDepth 100000 in
set_option maxHeartbeats 1000000 in
theorem rhigh4 (h : Held w0 w B) (n : Nat) (hn : n < 4294967296) :
    Calls Tryz.prog 187 #[.int .i64 n, .int .i64 4] w fun e w' => ∃ v' l, e = .returned v' ∧ l.length = 4 ∧ Held w0 w' (rBytes v' l :: B) := by
  have H0 := hid h
  have HZ0 := hid (show ((UInt8.ofNat (n / 16777216 % 256)).toNat : Int) = (n : Int) / 16777216 % 256 by have := byte_z (n / 16777216); rw [this]; omega)
  have HZ1 := hid (show ((UInt8.ofNat (n / 65536 % 256)).toNat : Int) = (n : Int) / 65536 % 256 by have := byte_z (n / 65536); rw [this]; omega)
  have HZ2 := hid (show ((UInt8.ofNat (n / 256 % 256)).toNat : Int) = (n : Int) / 256 % 256 by have := byte_z (n / 256); rw [this]; omega)
  have HZ3 := hid (show ((UInt8.ofNat (n % 256)).toNat : Int) = (n : Int) % 256 from byte_z n)
  generalize UInt8.ofNat (n / 16777216 % 256) = x0 at *
  generalize UInt8.ofNat (n / 65536 % 256) = x1 at *
  generalize UInt8.ofNat (n / 256 % 256) = x2 at *
  generalize UInt8.ofNat (n % 256) = x3 at *
  clear h
  go_enter Tryz.func187, Tryz.ntmps187
  go_wp2_with fail
  refine wp_loop_rounds 5 ?_
  rw [rounds_succ]
  go_wp2_with (at_builtin; refine wpl_app0 rfl _ _ rfl rfl (H0.out.lit1 x0 HZ0.out rfl) (fun _ => True) _ [x0] rfl (Held.bytes (l1 := []) (H0.out.lit1 x0 HZ0.out rfl)) (by simp) ?c0)
  case c0 =>
    intro A0 c0 w1 g
    have G0 := hid g.pull1.drop0
    clear g H0
    go_wp2_with fail
    rw [rounds_succ]
    go_wp2_with (at_builtin; refine wpl_app rfl _ _ rfl _ _ rfl (G0.out.lit1 x1 HZ1.out rfl).pull1 (fun _ => True) _ [x1] rfl (Held.bytes (l1 := []) (G0.out.lit1 x1 HZ1.out rfl)) (by simp) ?c1)
    case c1 =>
      intro A1 c1 w2 g
      have G1 := hid g.pull1.drop0
      clear g G0
      go_wp2_with fail
      rw [rounds_succ]
      go_wp2_with (at_builtin; refine wpl_app rfl _ _ rfl _ _ rfl (G1.out.lit1 x2 HZ2.out rfl).pull1 (fun _ => True) _ [x2] rfl (Held.bytes (l1 := []) (G1.out.lit1 x2 HZ2.out rfl)) (by simp) ?c2)
      case c2 =>
        intro A2 c2 w3 g
        have G2 := hid g.pull1.drop0
        clear g G1
        go_wp2_with fail
        rw [rounds_succ]
        go_wp2_with (at_builtin; refine wpl_app rfl _ _ rfl _ _ rfl (G2.out.lit1 x3 HZ3.out rfl).pull1 (fun _ => True) _ [x3] rfl (Held.bytes (l1 := []) (G2.out.lit1 x3 HZ3.out rfl)) (by simp) ?c3)
        case c3 =>
          intro A3 c3 w4 g
          have G3 := hid g.pull1.drop0
          clear g G2
          go_wp2_with fail
          rw [rounds_succ]
          go_wp2_with fail
          go_ret
          exact ⟨_, _, rfl, by simp, G3.out⟩
end
end Go.Proofs.YtdbhccehbjhbpaaGreatDoor

/- the reference: Frame (how many bytes it has). -/
namespace Go.Proofs.YtdbhccehbjhbpaaGreatDoor
open Go.RowKit
open Slog (numB)

section
variable {w0 w : World} {B : List Res}
set_option maxRecDepth 100000 in
set_option maxHeartbeats 1000000 in
theorem rframe_held {A : Option Addr} {c n : Nat} {l : List UInt8} (h : Held w0 w (rBytes (.slice A n c) l :: B)) (hn : n = l.length) (hle : n ≤ 65536) :
    Calls Tryz.prog 143 #[.slice A n c] w fun e w' => ∃ v' r, e = .returned (.tuple #[v', .int .i64 0]) ∧ r.length = n + 7 ∧ Held w0 w' (rBytes v' r :: B) := by
  have HN := hid hn
  have H3 := hid (rhigh3 h n (by omega))
  have hnn : ¬ ((65536 : Int) < (n : Int)) := by omega
  have HS := hid (fun w1 A1 c1 (r : List UInt8) B1 (g1 : Held w0 w1 (rBytes (.slice A1 r.length c1) r :: B1)) => rsum_any w1 A1 c1 r (Held.bytes (l1 := []) g1))
  have H4 := hid (fun w1 B1 (g1 : Held w0 w1 B1) s (hs : s < 4294967296) => rhigh4 g1 s hs)
  clear h hn
  go_enter Tryz.func143, Tryz.ntmps143
  go_wp2_with fail
  refine H3.out.mono ?_
  rintro e w1 ⟨v1, l1, rfl, hl1, g1⟩
  have HL1 := hid hl1
  clear hl1
  obtain ⟨A1, c1, rfl, -, -⟩ := Held.form (l1 := []) g1
  have G1 := hid g1
  clear g1 H3
  go_wp2_with (at_builtin; refine wpl_app rfl _ _ rfl _ _ rfl G1.out (fun _ => True) _ l rfl (Held.bytes (l1 := [_]) G1.out) (by have := HN.out; have := HL1.out; omega) ?c1)
  case c1 =>
    intro A2 c2 w2 g2
    have hr2 : (l1 ++ l).length = l1.length + l.length := List.length_append
    rw [← hr2] at g2 ⊢
    have HR2 := hid (show (l1 ++ l).length = n + 3 by rw [hr2, HL1.out, ← HN.out]; omega)
    generalize l1 ++ l = r2 at *
    have HSS := hid (HS.out _ _ _ _ _ g2)
    have G2 := hid g2
    clear g2 G1 HS hr2
    go_wp2_with fail
    refine HSS.out.mono ?_
    rintro e w3 ⟨s, hs, rfl, rfl⟩
    have H44 := hid (H4.out _ _ G2.out s hs)
    clear HSS H4
    have hs0 : wrap64 (s : Int) = (s : Int) := by unfold wrap64; omega
    go_wp2_with fail
    refine H44.out.mono ?_
    rintro e w4 ⟨v4, l4, rfl, hl4, g4⟩
    have HL4 := hid hl4
    clear hl4
    obtain ⟨A4, c4, rfl, -, -⟩ := Held.form (l1 := []) g4
    have G4 := hid g4
    clear g4 H44 G2
    go_wp2_with (at_builtin; refine wpl_app rfl _ _ rfl _ _ rfl G4.out.pull1 (fun _ => True) _ l4 rfl (Held.bytes (l1 := []) G4.out) (by have := HR2.out; have := HL4.out; omega) ?c2)
    case c2 =>
      intro A5 c5 w5 g5
      have G5 := hid g5
      have HL := hid (show (r2 ++ l4).length = n + 7 by rw [List.length_append, HR2.out, HL4.out])
      clear g5 G4
      go_wp2_with fail
      go_ret2
      exact ⟨_, _, rfl, HL.out, G5.out.pull1.drop0.pull1.drop0⟩
set_option maxRecDepth 100000 in
theorem rframe_long {A : Option Addr} {c n : Nat} (w : World) (hgt : 65536 < n) :
    Calls Tryz.prog 143 #[.slice A n c] w fun e w' => e = .returned (.tuple #[.slice none 0 0, .int .i64 4]) ∧ w' = w := by
  have hnn : (65536 : Int) < (n : Int) := by omega
  go_enter Tryz.func143, Tryz.ntmps143
  go_wp2_with fail
  go_ret2
  exact ⟨rfl, rfl⟩
set_option maxRecDepth 100000 in
/-- ref05.Frame of a record. -/
theorem rframed_held {A : Option Addr} {c n k : Nat} {l : List UInt8} (h : Held w0 w (rBytes (.slice A n c) l :: B)) (hn : n = l.length) (hk : k < 248) (hle : n ≤ 65535) :
    Calls Tryz.prog 91 #[.int .i64 k, .slice A n c] w fun e w' => ∃ v' r, e = .returned (.tuple #[v', .int .i64 0]) ∧ r.length = n + 8 ∧ Held w0 w' (rBytes v' r :: rBytes (.slice A n c) l :: B) := by
  have HF := hid (rform_held h k (by omega))
  have HN := hid hn
  have hk1 : (numB k).length = 1 := by rcases numB_forms k (by omega) with ⟨-, h2⟩ | ⟨h1, -⟩ | ⟨h1, -⟩ <;> first | (rw [h2]; rfl) | omega
  have HFR := hid (fun w1 A1 c1 m (r : List UInt8) B1 (g1 : Held w0 w1 (rBytes (.slice A1 m c1) r :: B1)) (hm : m = r.length) (hm2 : m ≤ 65536) => rframe_held g1 hm hm2)
  have HK1 := hid hk1
  clear hk1
  generalize numB k = nk at *
  clear h hn
  go_enter Tryz.func91, Tryz.ntmps91
  go_wp2_with fail
  refine HF.out.mono ?_
  rintro e w1 ⟨v1, rfl, g1⟩
  obtain ⟨A1, c1, rfl, -, -⟩ := Held.form (l1 := []) g1
  have G1 := hid g1
  clear g1 HF
  go_wp2_with (at_builtin; refine wpl_app rfl _ _ rfl _ _ rfl G1.out (fun _ => True) _ l rfl (Held.bytes (l1 := [_]) G1.out) (by have := HN.out; have := HK1.out; omega) ?c1)
  case c1 =>
    intro A2 c2 w2 g2
    have HL := hid (show nk.length + l.length = (nk ++ l).length by rw [List.length_append])
    have HL2 := hid (show nk.length + l.length = n + 1 by rw [HK1.out, ← HN.out]; omega)
    have H2 := hid (HFR.out _ _ _ _ _ _ g2 HL.out (by have := HL2.out; omega))
    rw [HL2.out] at H2 ⊢
    clear g2 HFR G1
    go_wp2_with fail
    refine H2.out.mono ?_
    rintro e w3 ⟨v3, r, rfl, hr, g3⟩
    have G3 := hid g3
    clear g3 H2
    go_wp2_with fail
    go_ret2
    exact ⟨_, r, rfl, by omega, G3.out⟩
set_option maxRecDepth 100000 in
theorem rframed_long {A : Option Addr} {c n k : Nat} {l : List UInt8} (h : Held w0 w (rBytes (.slice A n c) l :: B)) (hn : n = l.length) (hk : k < 248) (hgt : 65535 < n) (hmx : n ≤ 1000000000) :
    Calls Tryz.prog 91 #[.int .i64 k, .slice A n c] w fun e w' => e = .returned (.tuple #[.slice none 0 0, .int .i64 4]) ∧ Held w0 w' (rBytes (.slice A n c) l :: B) := by
  have HF := hid (rform_held h k (by omega))
  have HN := hid hn
  have hk1 : (numB k).length = 1 := by rcases numB_forms k (by omega) with ⟨-, h2⟩ | ⟨h1, -⟩ | ⟨h1, -⟩ <;> first | (rw [h2]; rfl) | omega
  have HK1 := hid hk1
  clear hk1
  generalize numB k = nk at *
  clear h hn
  go_enter Tryz.func91, Tryz.ntmps91
  go_wp2_with fail
  refine HF.out.mono ?_
  rintro e w1 ⟨v1, rfl, g1⟩
  obtain ⟨A1, c1, rfl, -, -⟩ := Held.form (l1 := []) g1
  have G1 := hid g1
  clear g1 HF
  go_wp2_with (at_builtin; refine wpl_app rfl _ _ rfl _ _ rfl G1.out (fun _ => True) _ l rfl (Held.bytes (l1 := [_]) G1.out) (by have := HN.out; have := HK1.out; omega) ?c1)
  case c1 =>
    intro A2 c2 w2 g2
    have HL2 := hid (show nk.length + l.length = n + 1 by rw [HK1.out, ← HN.out]; omega)
    rw [HL2.out] at g2 ⊢
    have H2 := hid (rframe_long (A := A2) (c := c2) (n := n + 1) w2 (by omega))
    have G2 := hid g2.drop0
    clear g2 G1
    go_wp2_with fail
    refine H2.out.mono ?_
    rintro e w3 ⟨rfl, rfl⟩
    go_wp2_with fail
    go_ret2
    exact ⟨rfl, G2.out⟩
end
end Go.Proofs.YtdbhccehbjhbpaaGreatDoor

/- the reference: Digits, Name of numbers below 100. -/
namespace Go.Proofs.YtdbhccehbjhbpaaGreatDoor
open Go.RowKit
open Slog (nameB)

/-- a literal of one byte, as a text. -/
theorem conv1 (w : World) (x : UInt8) {z : Int} (hz : (x.toNat : Int) = z) : (convert 87 9 (.slice (some ⟨w.heap.size, 0, none⟩) 1 1)).run Tryz.prog (w.alloc (.cells #[.int .u8 z] 5)) = .ok (.string ⟨#[x]⟩) (w.alloc (.cells #[.int .u8 z] 5)) := by
  have := run_convert_bytes_back (w.alloc (.cells #[.int .u8 z] 5)) 87 9 5 ⟨w.heap.size, 0, none⟩ 1 [x] Tryz.underlying87 Tryz.underlying5 Tryz.underlying9 (fun j hj => by
    have hj0 : j = 0 := by simpa using hj
    subst hj0
    have : (⟨w.heap.size, 0, none⟩ : Addr).add 0 = ⟨w.heap.size, 0, none⟩ := rfl
    rw [this, World.cell?_alloc_new]
    simp [hz])
  exact this
def textSize : Value → Nat
  | .string b => b.size
  | _ => 0
def digs (n : Nat) : List UInt8 := if n < 10 then [UInt8.ofNat (48 + n)] else [UInt8.ofNat (48 + n / 10), UInt8.ofNat (48 + n % 10)]
theorem digs_name : ∀ n : Fin 100, [115, 101, 103, 46] ++ (List.replicate (19 - (digs n.val).length) 48 ++ digs n.val) = nameB n.val := by decide +kernel
set_option maxRecDepth 100000 in
theorem rdigits_any (w : World) (n : Nat) (h1 : 1 ≤ n) (hn : n < 100) :
    Calls Tryz.prog 137 #[.int .i64 n] w fun e w' => e = .returned (sv (digs n)) ∧ Mod (fun _ => False) w w' := by
  by_cases h10 : n < 10
  · have HC := hid (conv1 w (UInt8.ofNat (48 + n)) (z := 48 + (n : Int)) (by rw [ofNat_toNat (by omega)]; omega))
    have e0 : ¬ ((n : Int) = 0) := by omega
    have e1 : ¬ ((n : Int) < 0) := by omega
    have e2 : (n : Int) % 10 = (n : Int) := by omega
    have e3 : (n : Int) / 10 = 0 := by omega
    have e4 : n ≠ 0 := by omega
    have hc := HC.out
    rw [show digs n = [UInt8.ofNat (48 + n)] by unfold digs; rw [if_pos h10]]
    generalize UInt8.ofNat (48 + n) = x at *
    go_enter Tryz.func137, Tryz.ntmps137
    go_wp2_with fail
    refine wp_loop_rounds 2 ?_
    rw [rounds_succ]
    go_wp2_with fail
    rw [rounds_succ]
    go_wp2_with fail
    go_ret
    exact ⟨rfl, (Mod.refl _ w).alloc _⟩
  · obtain ⟨m, hm⟩ : ∃ m, m = n / 10 := ⟨_, rfl⟩
    obtain ⟨r, hr⟩ : ∃ r, r = n % 10 := ⟨_, rfl⟩
    have HC := hid (conv1 w (UInt8.ofNat (48 + r)) (z := 48 + (r : Int)) (by rw [ofNat_toNat (by omega)]; omega))
    have HC2 := hid (fun w1 => conv1 w1 (UInt8.ofNat (48 + m)) (z := 48 + (m : Int)) (by rw [ofNat_toNat (by omega)]; omega))
    have e0 : ¬ ((n : Int) = 0) := by omega
    have e1 : ¬ ((n : Int) < 0) := by omega
    have e2 : (n : Int) % 10 = (r : Int) := by omega
    have e3 : (n : Int) / 10 = (m : Int) := by omega
    have e4 : n ≠ 0 := by omega
    have e5 : ¬ ((m : Int) = 0) := by omega
    have e6 : (m : Int) % 10 = (m : Int) := by omega
    have e7 : (m : Int) / 10 = 0 := by omega
    have e8 : m ≠ 0 := by omega
    have e9 : m < 10 := by omega
    have e10 : r < 10 := by omega
    have hc := HC.out
    have hc2 := HC2.out (w.alloc (.cells #[.int .u8 (48 + (r : Int))] 5))
    rw [asz] at hc2
    rw [show digs n = [UInt8.ofNat (48 + m), UInt8.ofNat (48 + r)] by unfold digs; rw [if_neg h10, hm, hr]]
    generalize UInt8.ofNat (48 + r) = x at *
    generalize UInt8.ofNat (48 + m) = y at *
    clear hm hr HC HC2
    go_enter Tryz.func137, Tryz.ntmps137
    go_wp2_with fail
    refine wp_loop_rounds 3 ?_
    rw [rounds_succ]
    go_wp2_with fail
    rw [rounds_succ]
    go_wp2_with fail
    rw [rounds_succ]
    go_wp2_with fail
    go_ret
    exact ⟨rfl, ((Mod.refl _ w).alloc _).alloc _⟩
set_option maxRecDepth 100000 in
theorem rname_any (w : World) (n : Nat) (h1 : 1 ≤ n) (hn : n < 100) :
    Calls Tryz.prog 82 #[.int .i64 n] w fun e w' => e = .returned (sv (nameB n)) ∧ Mod (fun _ => False) w w' := by
  have HD := hid (rdigits_any w n h1 hn)
  have hdl : (digs n).length ≤ 2 ∧ 1 ≤ (digs n).length := by unfold digs; split <;> simp
  have HN := hid (digs_name ⟨n, hn⟩)
  dsimp only at HN
  generalize digs n = d at *
  unfold sv at HD ⊢
  go_enter Tryz.func82, Tryz.ntmps82
  go_wp2_with fail
  refine HD.out.mono ?_
  rintro e w1 ⟨rfl, m1⟩
  have M1 := hid m1
  clear m1 HD
  go_wp2_with fail
  go_loopw [3] (fun s wr => ∃ k : Nat, k + d.length ≤ 19 ∧ s = .string ⟨(List.replicate k 48 ++ d).toArray⟩ ∧ wr = w1) (fun s _ => 19 - textSize s)
  case atStart => exact ⟨0, by omega, by simp, rfl⟩
  case round =>
    obtain ⟨k, hk, rfl, rfl⟩ := hrel
    obtain ⟨t, ht⟩ : ∃ t, t = List.replicate k 48 ++ d := ⟨_, rfl⟩
    have htl : t.length = k + d.length := by rw [ht, List.length_append, List.length_replicate]
    have HT := hid ht
    rw [← ht]
    have hsz : (ByteArray.mk t.toArray).size = t.length := by simp [ByteArray.size]
    clear ht
    by_cases hlt : k + d.length < 19
    · have hlt2 : (t.length : Int) < 19 := by omega
      have k2 : ¬ (9223372036854775807 < 1 + t.length) := by omega
      go_wp2_with fail
      refine ⟨⟨k + 1, by omega, ?_, by first | rfl | trivial⟩, ?_⟩
      · show Value.string (⟨#[48]⟩ ++ ⟨t.toArray⟩) = Value.string ⟨(List.replicate (k + 1) 48 ++ d).toArray⟩
        rw [List.replicate_succ, List.cons_append, ← HT.out]
        congr 1
      · show 19 - (⟨#[48]⟩ ++ (⟨t.toArray⟩ : ByteArray)).size < 19 - (⟨t.toArray⟩ : ByteArray).size
        rw [ByteArray.size_append, hsz]
        show 19 - (1 + t.length) < 19 - t.length
        omega
    · have hlt2 : ¬ ((t.length : Int) < 19) := by omega
      have k2 : ¬ (9223372036854775807 < 4 + t.length) := by omega
      have HK2 := hid (show k = 19 - d.length by omega)
      clear hlt htl
      go_wp2_with fail
      go_ret
      refine ⟨?_, M1.out⟩
      rw [← HN.out, ← HK2.out, ← HT.out]
      show Ending.returned (.string (⟨#[115, 101, 103, 46]⟩ ++ ⟨t.toArray⟩)) = Ending.returned (.string ⟨([115, 101, 103, 46] ++ t).toArray⟩)
      congr 2
end Go.Proofs.YtdbhccehbjhbpaaGreatDoor
