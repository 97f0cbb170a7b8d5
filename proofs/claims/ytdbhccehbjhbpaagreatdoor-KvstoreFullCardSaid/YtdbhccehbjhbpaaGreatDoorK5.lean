/- wire.Text behind bytes; kvstore's told. -/
import Derived.Test.YtdbhccehbjhbpaaGreatDoorT24
import Derived.Test.YtdbhccehbjhbpaaGreatDoorK1
namespace Go.Proofs.YtdbhccehbjhbpaaGreatDoor
open Go.RowKit
open Slog (numB)

set_option maxRecDepth 100000 in
set_option maxHeartbeats 2000000 in
/-- wire.Text, behind bytes. -/
theorem text_held {w0 w : World} {B : List Res} (h : Held w0 w B) (S : Nat → Prop) (v : Value) (l : List UInt8) (hv : Rd S w v (bytesV l)) (hl : l.length ≤ 1000000000000) (s : List UInt8) (hs : s.length < 65536) :
    Calls Tryz.prog 38 #[v, sv s] w fun e w' => ∃ v', e = .returned v' ∧ Held w0 w' (rBytes v' (l ++ (numB s.length ++ s)) :: B) := by
  obtain ⟨i0, hi, hz0, hz1, hz2⟩ := info_parts Tryz.info5
  have HI := hid (And.intro hi (And.intro hz0 (And.intro hz1 hz2)))
  unfold sv
  have HN := hid (wnumber_held h S v l hv hl s.length hs)
  have hnl := Kv.numB_len hs
  have HL := hid (show (bytesV (l ++ numB s.length)).length + s.length ≤ 1000000070000 by rw [bytesV_length, List.length_append]; omega)
  have hsz : (ByteArray.mk s.toArray).size = s.length := by simp [ByteArray.size]
  have HE := hid (show bytesV (l ++ numB s.length) ++ bytesV s = bytesV (l ++ (numB s.length ++ s)) by rw [← bytesV_append, List.append_assoc])
  generalize l ++ (numB s.length ++ s) = r1 at *
  generalize l ++ numB s.length = r0 at *
  clear hi hz0 hz1 hz2 hv h hnl
  go_enter Tryz.func38, Tryz.ntmps38
  go_wp2_with (first
    | (go_at_call 36; refine HN.out.mono ?_; rintro e w1 ⟨v1, rfl, g1⟩; obtain ⟨A1, c1, rfl, hc11, hc12⟩ := Held.form (l1 := []) g1; have G1 := hid g1; clear g1)
    | (at_builtin; refine wpList_append_text [] _ rfl _ _ 87 9 rfl 5 i0 Tryz.underlying87 Tryz.underlying9 HI.out.1 HI.out.2.1 HI.out.2.2.1 HI.out.2.2.2 _ (bytesV r0) rfl G1.out s rfl ?c1 ?c2 ?c3))
  case c1 => have := HL.out; unfold maxLen; omega
  case c2 => have := HL.out; omega
  case c3 =>
    intro A2 c2 w2 g2
    have G2 := hid (show Held w0 w2 (rBytes (.slice A2 ((bytesV r0).length + s.length) c2) r1 :: B) by unfold rBytes; rw [← HE.out]; exact g2)
    clear g2
    go_wp2_with fail
    go_ret
    exact ⟨_, rfl, G2.out⟩

set_option maxRecDepth 100000 in
set_option maxHeartbeats 2000000 in
/-- kvstore's told, behind bytes that are owned. -/
theorem told_held {w0 w : World} {B : List Res} {v : Value} {l : List UInt8} (h : Held w0 w (rBytes v l :: B)) (hl : l.length ≤ 100000000000) (gone : Bool) (s : List UInt8) (hs : s.length < 65536) :
    Calls Tryz.prog 37 #[v, .bool gone, sv s] w fun e w' => ∃ v', e = .returned v' ∧ Held w0 w' (rBytes v' (l ++ Kv.told gone s) :: B) := by
  obtain ⟨i0, hi, hz0, hz1, hz2⟩ := info_parts Tryz.info5
  have HI := hid (And.intro hi (And.intro hz0 (And.intro hz1 hz2)))
  obtain ⟨A0, c0, rfl, hc1, hc2⟩ := Held.form (l1 := []) h
  obtain ⟨bs, hbs⟩ : ∃ bs, bs = bytesV l := ⟨_, rfl⟩
  have HBL := hid (bytesV_length l)
  have HBS := hid hbs
  have G0 := hid (show Held w0 w (rOwn 5 (.slice A0 l.length c0) bs :: B) by rw [hbs]; exact h)
  rw [← hbs] at HBL
  clear hi hz0 hz1 hz2 h hbs
  cases gone with
  | true =>
    have HE := hid (show bytesV (l ++ Kv.told true s) = bs ++ [.int .u8 1] by rw [HBS.out, bytesV_append]; rfl)
    generalize l ++ Kv.told true s = r1 at *
    generalize sv s = sx at *
    go_enter Tryz.func37, Tryz.ntmps37
    go_wp2_with (at_builtin; refine wpList_append_held [] _ rfl _ _ 87 rfl 5 i0 (.int .u8 0) 1 Tryz.underlying87 HI.out.1 HI.out.2.1 HI.out.2.2.1 HI.out.2.2.2 rfl _ _ rfl (G0.out.alloc _) _ (.slice (some ⟨w.heap.size, 0, none⟩) 1 1) [.int .u8 1] rfl (own_built 5 w [.int .u8 1] (by simp [maxLen])).rd (by simp [Value.oneCell']) ?c1 ?c2 ?c3)
    case c1 => rw [HBL.out, List.length_singleton]; omega
    case c2 => rw [HBL.out, List.length_singleton]; unfold maxLen; omega
    case c3 =>
      intro A2 c2 w2 q1 q2 g2
      have G2 := hid (show Held w0 w2 (rBytes (.slice A2 (bs.length + [Value.int .u8 1].length) c2) r1 :: B) by unfold rBytes; rw [HE.out]; exact g2)
      clear g2
      go_wp2_with fail
      go_ret
      exact ⟨_, rfl, G2.out⟩
  | false =>
    have HE := hid (show bytesV (l ++ [0]) = bs ++ [.int .u8 0] by rw [HBS.out, bytesV_append]; rfl)
    have HE2 := hid (show (l ++ [0]) ++ (numB s.length ++ s) = l ++ Kv.told false s by unfold Kv.told; simp)
    have HT := hid (fun w1 v1 (g1 : Held w0 w1 (rBytes v1 (l ++ [0]) :: B)) => text_held g1 (fun _ => True) v1 (l ++ [0]) (Held.bytes (l1 := []) g1) (by simp; omega) s hs)
    rw [HE2.out] at HT
    generalize l ++ Kv.told false s = r1 at *
    generalize l ++ [0] = r0 at *
    generalize sv s = sx at *
    clear HE2
    go_enter Tryz.func37, Tryz.ntmps37
    go_wp2_with (first
      | (go_at_call 38; refine (HT.out _ _ G2.out).mono ?_; rintro e w3 ⟨v3, rfl, g3⟩; have G3 := hid g3; clear g3)
      | (at_builtin; refine wpList_append_held [] _ rfl _ _ 87 rfl 5 i0 (.int .u8 0) 1 Tryz.underlying87 HI.out.1 HI.out.2.1 HI.out.2.2.1 HI.out.2.2.2 rfl _ _ rfl (G0.out.alloc _) _ (.slice (some ⟨w.heap.size, 0, none⟩) 1 1) [.int .u8 0] rfl (own_built 5 w [.int .u8 0] (by simp [maxLen])).rd (by simp [Value.oneCell']) ?c1 ?c2 ?c3))
    case c1 => rw [HBL.out, List.length_singleton]; omega
    case c2 => rw [HBL.out, List.length_singleton]; unfold maxLen; omega
    case c3 =>
      intro A2 c2 w2 q1 q2 g2
      have G2 := hid (show Held w0 w2 (rBytes (.slice A2 (bs.length + [Value.int .u8 0].length) c2) r0 :: B) by unfold rBytes; rw [HE.out]; exact g2)
      clear g2
      go_wp2_with (first
        | (go_at_call 38; refine (HT.out _ _ G2.out).mono ?_; rintro e w3 ⟨v3, rfl, g3⟩; have G3 := hid g3.pull1.drop0; clear g3))
      go_ret
      exact ⟨_, rfl, G3.out⟩
end Go.Proofs.YtdbhccehbjhbpaaGreatDoor
