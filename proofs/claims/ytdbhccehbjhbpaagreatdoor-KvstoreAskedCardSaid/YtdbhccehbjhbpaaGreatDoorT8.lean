/- seglog: name, number. -/
import Derived.Test.YtdbhccehbjhbpaaGreatDoorTB
import Derived.Test.YtdbhccehbjhbpaaGreatDoorT1
import Derived.Test.YtdbhccehbjhbpaaGreatDoorT2
import Derived.Shelf.Strconv.AtoiAll
import Derived.Shelf.Strconv.Itoa4
import Derived.Shelf.Strings.Repeat
import Derived.Shelf.Small.Wraps

namespace Go.Proofs.YtdbhccehbjhbpaaGreatDoor
open Go.RowKit Go.Shelf
open Slog (nameB)

theorem extra_repeat : Builder.Extra Tryz.prog Tryz.repeatL_ren where
  sizeBuilder := by kernel_rfl
  liesBuilder := by kernel_rfl
  t5 := Tryz.repeatL.t5
  a5 := Tryz.repeatL.a5
  z5 := Tryz.repeatL.z5
  v5 := Tryz.repeatL.v5
  infoByte := by kernel_rfl
  cellsByte := by kernel_rfl
  sizeByte := by kernel_rfl
  neB5 := by decide

theorem itoa_any (w : World) (n : Nat) (hn : n < 100) : Calls Tryz.prog 126 #[.int .i64 n] w fun e w' => e = .returned (.string ⟨(Lib.decDigits n).toArray⟩) ∧ w' = w :=
  Any.strconv_Itoa_small { Tryz.itoaL with } n hn w
theorem repeat_any (w : World) (s : ByteArray) (c : Nat) (hc2 : 2 ≤ c) (hc : c ≤ 9223372036854775807) (hlen : s.size * c ≤ 140737488355328) (h0 : 0 < s.size) :
    Calls Tryz.prog 127 #[.string s, .int .i64 c] w fun e w' => e = .returned (.string ⟨(Lib.repeatL s.data.toList c).toArray⟩) ∧ Below w.heap.size w w' :=
  Any.strings_Repeat_main Tryz.repeatL extra_repeat s c w hc2 hc hlen h0
theorem cutPrefix_any (s p : ByteArray) (w : World) :
    Calls Tryz.prog 151 #[.string s, .string p] w fun e w' => e = .returned (.tuple #[.string ⟨(Lib.trimPrefix s.data.toList p.data.toList).toArray⟩, .bool (Lib.hasPrefix s.data.toList p.data.toList)]) ∧ w' = w :=
  Any.strings_CutPrefix Tryz.cutPrefixL s p w
theorem atoi_any (s : ByteArray) (hmax : s.size ≤ 9223372036854775806) (v : Int) (h : Lib.atoiAll s.data.toList = .ok v) (w : World) :
    Calls Tryz.prog 152 #[.string s] w fun e w' => e = .returned (.tuple #[.int .i64 v, .nilIface]) ∧ (w' = w ∨ ∃ t, w' = Lib.bytesWorld w 5 t) :=
  Any.strconv_Atoi_ok Tryz.atoiL s hmax v h w

/-- the digits behind the name's letters. -/
def tailB (n : Nat) : List UInt8 := List.replicate 16 48 ++ [UInt8.ofNat (48 + n / 100), UInt8.ofNat (48 + n / 10 % 10), UInt8.ofNat (48 + n % 10)]
theorem name_tail (n : Nat) : nameB n = [115, 101, 103, 46] ++ tailB n := by unfold nameB tailB; rw [List.append_assoc]
def atoiRight (n : Nat) : Bool := match Lib.atoiAll (tailB n) with | .ok v => v == (n : Int) | _ => false
theorem atoi_right : ∀ n : Fin 100, atoiRight n.val = true := by decide +kernel
theorem atoi_tail {n : Nat} (hn : n < 100) : Lib.atoiAll (tailB n) = .ok (n : Int) := by
  have h := atoi_right ⟨n, hn⟩
  unfold atoiRight at h
  split at h
  · rename_i v hv
    rw [hv]
    simp at h
    rw [h]
  · cases h
theorem dec_len {n : Nat} (hn : n < 100) : (Lib.decDigits n).length = if n < 10 then 1 else 2 := by
  split
  · rename_i h; rw [Lib.decDigits, dif_pos h]; rfl
  · rename_i h
    rw [Lib.decDigits, dif_neg h, List.length_append, Lib.decDigits, dif_pos (by omega)]
    rfl
theorem name_dec : ∀ n : Fin 100, [115, 101, 103, 46] ++ Lib.repeatL [48] (19 - (if n.val < 10 then 1 else 2)) ++ Lib.decDigits n.val = nameB n.val := by decide +kernel

set_option maxRecDepth 100000 in
theorem name_any (w : World) (n : Nat) (hn : n < 100) : Calls Tryz.prog 72 #[.int .i64 n] w fun e w' => e = .returned (sv (nameB n)) ∧ Mod (fun _ => False) w w' := by
  have HI := hid (itoa_any w n hn)
  have hlen := dec_len hn
  have HN := hid (name_dec ⟨n, hn⟩)
  obtain ⟨c, hc⟩ : ∃ c, c = 19 - (if n < 10 then 1 else 2) := ⟨_, rfl⟩
  have hc2 : c = 17 ∨ c = 18 := by split at hc <;> omega
  have hl : (Lib.decDigits n).length = 19 - c := by rw [hlen, hc]; split <;> omega
  have HR := hid (repeat_any w ⟨#[48]⟩ c (by omega) (by omega) (by show 1 * c ≤ _; omega) (by decide))
  have HD := hid hc
  have hs : (ByteArray.mk (Lib.decDigits n).toArray).size = 19 - c := by rw [← hl]; simp [ByteArray.size]
  have k1 : (Lib.repeatL [48] c).length = c := by rw [Lib.repeatL_length]; simp
  have k2 : ¬ (9223372036854775807 < 4 + c) := by omega
  have k3 : ¬ (9223372036854775807 < 4 + c + (19 - c)) := by omega
  clear hlen hl hc
  go_enter Tryz.func72, Tryz.ntmps72
  go_wp2_with (first
    | (go_at_call 126; refine HI.out.mono ?_; rintro e w' ⟨rfl, rfl⟩))
  rw [show (19 : Int) - ((19 - c : Nat) : Int) = (c : Int) by omega]
  refine HR.out.mono ?_
  rintro e w1 ⟨rfl, hb⟩
  have HB := hid (Mod.of_below (S := fun _ => False) hb)
  clear hb
  go_wp2_with fail
  go_ret
  refine ⟨?_, HB.out⟩
  have hN := HN.out
  rw [← hN, ← HD.out]
  show Ending.returned (.string (⟨#[115, 101, 103, 46]⟩ ++ ⟨(Lib.repeatL [48] c).toArray⟩ ++ ⟨(Lib.decDigits n).toArray⟩)) = _
  unfold sv
  congr 2

/-- names up to a number, in whatever world that leaves old memory as it was. -/
def NameOk (w0 : World) (m : Nat) : Prop := ∀ n, n < m → ∀ w, Mod (fun _ => False) w0 w → Calls Tryz.prog 72 #[.int .i64 n] w fun e w' => e = .returned (sv (nameB n)) ∧ Mod (fun _ => False) w w'
theorem nameOk_100 (w0 : World) : NameOk w0 100 := fun n hn w _ => name_any w n hn

theorem tail_len (n : Nat) : (tailB n).length = 19 := rfl
theorem prefix_name (n : Nat) : Lib.trimPrefix (nameB n) [115, 101, 103, 46] = tailB n ∧ Lib.hasPrefix (nameB n) [115, 101, 103, 46] = true := by
  have h : Lib.hasPrefix (nameB n) [115, 101, 103, 46] = true := by
    unfold Lib.hasPrefix
    rw [name_tail]
    simp
  refine ⟨?_, h⟩
  unfold Lib.trimPrefix
  rw [if_pos h, name_tail]
  rfl
theorem bytesWorld_mod (w : World) (e : TypeId) (s : ByteArray) : Mod (fun _ => False) w (Lib.bytesWorld w e s) := by
  unfold Lib.bytesWorld
  refine ⟨rfl, rfl, rfl, ?_, fun b hb _ => ?_⟩
  · simp [World.freeze]
  · have h1 := Below.heap_alloc w.drew (.cells (Lib.bytesCells w e s) e) b hb
    rw [← show (w.drew.alloc (.cells (Lib.bytesCells w e s) e)).heap[b]? = w.heap[b]? from h1]
    show (Array.modify _ w.heap.size _)[b]? = _
    rw [Array.getElem?_modify, if_neg (by omega)]

theorem atoi_name (w : World) {n : Nat} (hn : n < 100) :
    Calls Tryz.prog 152 #[.string ⟨(tailB n).toArray⟩] w fun e w' => e = .returned (.tuple #[.int .i64 n, .nilIface]) ∧ Mod (fun _ => False) w w' :=
  (atoi_any ⟨(tailB n).toArray⟩ (by show (tailB n).toArray.size ≤ _; simp [tail_len]) n (by simpa using atoi_tail hn) w).mono fun e w' ⟨h1, h2⟩ => ⟨h1, by
    rcases h2 with rfl | ⟨t, rfl⟩
    · exact Mod.refl _ _
    · exact bytesWorld_mod _ _ _⟩

set_option maxRecDepth 100000 in
theorem number_held (w : World) (n : Nat) (h1 : 1 ≤ n) (hn : n < 100) : Calls Tryz.prog 97 #[sv (nameB n)] w fun e w' => e = .returned (.int .i64 n) ∧ Mod (fun _ => False) w w' := by
  have HC := hid (cutPrefix_any ⟨(nameB n).toArray⟩ ⟨#[115, 101, 103, 46]⟩ w)
  have hp := prefix_name n
  dsimp only at HC
  rw [hp.1, hp.2] at HC
  have HA := hid (fun w => atoi_name w hn)
  have HN := hid (fun w => name_any w n hn)
  have e1 : (decide ((n : Int) < 1)) = false := by simp; omega
  clear hp
  unfold sv at HN ⊢
  go_enter Tryz.func97, Tryz.ntmps97
  go_wp2_with (first
    | (go_at_call 151; refine HC.out.mono ?_; rintro e w' ⟨rfl, rfl⟩)
    | (go_at_call 152; refine (HA.out _).mono ?_; rintro e w1 ⟨rfl, hm⟩; have HM1 := hid hm; clear hm)
    | (go_at_call 72; refine (HN.out _).mono ?_; rintro e w2 ⟨rfl, hm⟩; have HM2 := hid hm; clear hm))
  go_ret
  exact ⟨rfl, HM1.out.trans' HM2.out⟩
end Go.Proofs.YtdbhccehbjhbpaaGreatDoor
