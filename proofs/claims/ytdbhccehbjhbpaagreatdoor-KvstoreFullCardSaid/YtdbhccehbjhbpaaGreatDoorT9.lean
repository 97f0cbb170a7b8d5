/- seglog: rows of records in memory; read. -/
import Derived.Test.YtdbhccehbjhbpaaGreatDoorT8
namespace Go.Proofs.YtdbhccehbjhbpaaGreatDoor
open Go.RowKit
open Slog (framed framesOf unframe numB Small)

/-- a slice of records. -/
def rRecs (v : Value) (rs : List (List UInt8)) : Res := rSome (fun bvs : List Value => bvs.length = rs.length) fun bvs => [rOwn 87 v bvs, rBig bytesLoc (bvs.zip rs)]
theorem Tryz.infoBytes : (Tryz.prog.info? 87).map (fun i => (i.zero, i.size, i.bytes)) = some (some (.slice none 0 0), 1, 24) := by kernel_rfl

section
variable {w0 w : World} {B : List Res} {v : Value} {rs : List (List UInt8)}
theorem Held.recs_open (h : Held w0 w (rRecs v rs :: B)) : ∃ bvs, bvs.length = rs.length ∧ Held w0 w (rOwn 87 v bvs :: rBig bytesLoc (bvs.zip rs) :: B) := by
  obtain ⟨bvs, hl, h1⟩ := Held.open_some (l1 := []) h
  exact ⟨bvs, hl, by simpa using h1⟩
theorem Held.recs_shut (bvs : List Value) (hl : bvs.length = rs.length) (h : Held w0 w (rOwn 87 v bvs :: rBig bytesLoc (bvs.zip rs) :: B)) : Held w0 w (rRecs v rs :: B) :=
  Held.close_some (l1 := []) bvs hl (by simpa using h)
theorem Held.recs_nil (h : Held w0 w B) : Held w0 w (rRecs (.slice none 0 0) [] :: B) :=
  Held.recs_shut [] rfl ((h.big_nil bytesLoc).nil_own 87)
theorem Held.recs_form (h : Held w0 w (rRecs v rs :: B)) : ∃ A c, v = .slice A rs.length c ∧ rs.length ≤ c ∧ c ≤ 9223372036854775807 := by
  obtain ⟨bvs, hl, h1⟩ := h.recs_open
  obtain ⟨A, c, hv, hc, hm, -⟩ := Held.own_rd (l1 := []) h1
  rw [hl] at hv hc
  exact ⟨A, c, hv, hc, by unfold maxLen at hm; exact hm⟩
/-- one record more. -/
theorem Held.recs_snoc {bvs : List Value} {v' : Value} {r : List UInt8} (hl : bvs.length = rs.length) (h : Held w0 w (rOwn 87 v (bvs ++ [v']) :: rBig bytesLoc (bvs.zip rs) :: rBytes v' r :: B)) : Held w0 w (rRecs v (rs ++ [r]) :: B) := by
  refine Held.recs_shut (bvs ++ [v']) (by simp [hl]) ?_
  rw [List.zip_append hl]
  exact Held.big_snoc (A := [_]) bytesLoc (x := (v', r)) h
/-- one of them is read. -/
theorem Held.recs_get (h : Held w0 w (rRecs v rs :: B)) {k : Nat} (hk : k < rs.length) : ∃ b off c u, v = .slice (some ⟨b, off, none⟩) rs.length c ∧ w.cell? ⟨b, off + k, none⟩ = some u ∧ Rd (fun _ => True) w u (bytesV rs[k]) := by
  obtain ⟨bvs, hl, h1⟩ := h.recs_open
  have hkb : k < bvs.length := by omega
  have hz : bvs.zip rs = (bvs.zip rs).take k ++ (bvs[k], rs[k]) :: (bvs.zip rs).drop (k + 1) := by
    conv => lhs; rw [← List.take_append_drop k (bvs.zip rs)]
    congr 1
    rw [List.drop_eq_getElem_cons (by simp; omega), List.getElem_zip]
  have h2 := h1.pull1
  rw [hz] at h2
  have h3 := Held.big_uncons (l1 := [_]) bytesLoc (Held.big_split (l1 := []) bytesLoc h2)
  have hr : Rd (fun _ => True) w bvs[k] (bytesV rs[k]) := Held.bytes (l1 := [_]) h3
  obtain ⟨A, c, hv, hc, hm, hA⟩ := Held.own_rd (l1 := []) h1
  obtain ⟨b, off, rfl, -, hcell⟩ := hA (by intro e; rw [e] at hkb; simp at hkb)
  exact ⟨b, off, c, bvs[k], by rw [hv, hl], hcell k _ (List.getElem?_eq_getElem hkb), hr⟩
end

theorem frames_drop {first k : Nat} {rs : List (List UInt8)} {z : List UInt8} (hk : k ≤ rs.length) : (framesOf first rs ++ z).drop (framesOf first (rs.take k)).length = framesOf (first + k) (rs.drop k) ++ z := by
  have h := Slog.framesOf_append first (rs.take k) (rs.drop k)
  rw [List.take_append_drop, List.length_take, Nat.min_eq_left hk] at h
  rw [h, List.append_assoc, List.drop_left]

set_option maxRecDepth 100000 in
theorem slice_from {S : Nat → Prop} {w : World} {A : Option Addr} {n c : Nat} {b : List UInt8} (h : Rd S w (.slice A n c) (bytesV b)) {m : Nat} (hm : m ≤ n) :
    ∃ A' c', (∀ w', (Instr.slice 87 (.slice A n c) (some (.int .i64 m)) none none).run Tryz.prog w' = .ok (.slice A' (n - m) c') w') ∧ Rd S w (.slice A' (n - m) c') (bytesV (b.drop m)) := by
  obtain ⟨i0, hi, -, hz1, -⟩ := info_parts Tryz.info5
  refine ⟨_, _, fun w' => ?_, bytesV_drop b m ▸ h.drop hm⟩
  rw [run_slice_l w' 87 A n c Tryz.underlying87 .i64 (m : Int) (by omega) (by omega)]
  have e : Tryz.prog.elem 87 = 5 := by kernel_rfl
  rw [e]
  have hs : (sizeOf 5).run Tryz.prog w' = .ok 1 w' := by simp [sizeOf, typeInfo, hi, hz1]
  rw [hs]
  simp [Result.andThen, sliced]

def ReadAt (w0 : World) (B : List Res) (v : Value) (b : List UInt8) (first : Nat) (rs : List (List UInt8)) (lv av : Value) (wr : World) : Prop :=
  ∃ k, k ≤ rs.length ∧ av = .int .i64 (framesOf first (rs.take k)).length ∧ Held w0 wr (rRecs lv (rs.take k) :: rBytes v b :: B)

set_option maxRecDepth 100000 in
set_option maxHeartbeats 2000000 in
theorem sread_held {w0 w : World} {B : List Res} {v : Value} {first : Nat} {rs : List (List UInt8)} {z : List UInt8} (h : Held w0 w (rBytes v (framesOf first rs ++ z) :: B)) (hs : Small first rs) (hz : unframe z = none) (hlen : (framesOf first rs ++ z).length ≤ 1099511627776) :
    Calls Tryz.prog 99 #[v, .int .i64 first] w fun e w' => ∃ v', e = .returned (.tuple #[v', .int .i64 (framesOf first rs).length]) ∧ Held w0 w' (rRecs v' rs :: rBytes v (framesOf first rs ++ z) :: B) := by
  obtain ⟨A, c, rfl, hc, hm⟩ := Held.form (l1 := []) h
  have HH := hid h.recs_nil
  have HS := hid (And.intro hs hz)
  have HD := hid (fun k (hk : k ≤ rs.length) => frames_drop (first := first) (z := z) hk)
  obtain ⟨b, hb⟩ : ∃ b, b = framesOf first rs ++ z := ⟨_, rfl⟩
  rw [← hb] at HH hc hlen ⊢
  rw [← hb] at HD
  have HB := hid hb
  obtain ⟨i0, hi, hz0, hz1, hz2⟩ := info_parts Tryz.infoBytes
  have HI := hid (And.intro hi (And.intro hz0 (And.intro hz1 hz2)))
  clear hb h hs hz hi hz0 hz1 hz2
  go_enter Tryz.func99, Tryz.ntmps99
  go_wp2_with fail
  go_loopw [6, 7] (fun lv av wr => ReadAt w0 B (.slice A b.length c) b first rs lv av wr) (fun _ av _ => b.length - (intOf av).toNat)
  case atStart => exact ⟨0, Nat.zero_le _, rfl, HH.out⟩
  case round =>
    obtain ⟨k, hk, rfl, hh⟩ := hrel
    have hd := HD.out k hk
    obtain ⟨m, hm⟩ : ∃ m, m = (framesOf first (rs.take k)).length := ⟨_, rfl⟩
    rw [← hm] at hd ⊢
    have hml : m ≤ b.length := by
      have h1 := Slog.framesOf_append first (rs.take k) (rs.drop k)
      rw [List.take_append_drop] at h1
      rw [HB.out, List.length_append, h1, List.length_append, ← hm]
      omega
    have HM := hid hm
    have HK := hid hh
    have HE := hid hd
    have h0 : (0 : Int) ≤ (m : Int) := by omega
    have h1 : (m : Int) ≤ (b.length : Int) := by omega
    clear hm hh hd
    obtain ⟨A6, c6, rfl, hc6, hm6⟩ := Held.recs_form HK.out
    rw [List.length_take, Nat.min_eq_left hk] at HK hc6 ⊢
    obtain ⟨A', c', hsl, hr⟩ := slice_from (Held.bytes (l1 := [_]) HK.out) hml
    have HU := hid (unframe_any _ wr _ (b.drop m) hr (by rw [List.length_drop]; omega))
    have hsz := HS.out
    have hcase : (k = rs.length ∧ unframe (b.drop m) = none) ∨ ∃ hkl : k < rs.length, unframe (b.drop m) = some (numB (first + k) ++ rs[k], rs[k].length + 8) := by
      rw [HE.out]
      rcases Nat.lt_or_ge k rs.length with hkl | hkl
      · refine .inr ⟨hkl, ?_⟩
        rw [List.drop_eq_getElem_cons hkl, Slog.framesOf_cons, List.append_assoc]
        unfold framed
        have hn : (numB (first + k) ++ rs[k]).length = rs[k].length + 1 := by rw [Slog.numB_small (by have := hsz.1.1; omega)]; simp
        have hr2 := hsz.1.2 rs[k] (List.getElem_mem hkl)
        rw [Slog.unframe_frame _ _ (by omega), hn]
      · refine .inl ⟨by omega, ?_⟩
        rw [List.drop_eq_nil_of_le (by omega)]
        exact hsz.2
    clear hr hsz
    rcases hcase with ⟨hkl, hun⟩ | ⟨hkl, hun⟩
    · have HN := hid hun
      clear hun
      go_wp2_with (first
          | (go_at_call 153; refine HU.out.mono ?_; intro e w1 hp; unfold UnPost at hp; rw [HN.out] at hp; obtain ⟨er, he, rfl, hmm⟩ := hp; have he2 : (er != 0) = true := bne_iff_ne.2 he; have HL := hid (HK.out.step hmm); clear hmm he))
      go_ret2
      have hL := HL.out
      rw [hkl, List.take_length] at hL
      refine ⟨.slice A6 rs.length c6, ?_, hL⟩
      show Ending.returned (.tuple #[.slice A6 rs.length c6, .int .i64 m]) = _
      rw [HM.out, hkl, List.take_length]
    · have hsm := HS.out.1
      have hf1 : first + k ≤ 247 := by have := hsm.1; omega
      have hf2 : rs[k].length ≤ 65535 := hsm.2 _ (List.getElem_mem hkl)
      have HN := hid (show unframe (b.drop m) = some (UInt8.ofNat (first + k) :: rs[k], rs[k].length + 8) by rw [hun, Slog.numB_small hf1]; rfl)
      have HT := hid (show rs.take (k + 1) = rs.take k ++ [rs[k]] from List.take_succ_eq_append_getElem hkl)
      have HF := hid (show (framesOf first (rs.take (k + 1))).length = m + (rs[k].length + 8) by
        rw [HT.out, Slog.framesOf_snoc, List.length_append, ← HM.out, List.length_take, Nat.min_eq_left hk, Slog.framed_length hf1])
      have HFL := hid (show m + (rs[k].length + 8) ≤ b.length by
        have h2 := Slog.framesOf_append first (rs.take (k + 1)) (rs.drop (k + 1))
        rw [List.take_append_drop] at h2
        rw [HB.out, List.length_append, h2, List.length_append, HF.out]
        omega)
      have hx : (UInt8.ofNat (first + k)).toNat = first + k := by rw [Slog.u8_ofNat]; omega
      have HX := hid hx
      clear hun hx hsm
      generalize rs[k] = r at *
      obtain ⟨x, hxe⟩ : ∃ x, x = UInt8.ofNat (first + k) := ⟨_, rfl⟩
      rw [← hxe] at HN HX
      clear hxe
      have HC := hid (fun w1 (v1 : Value) (B : List Res) (h : Held w0 w1 (rBytes v1 (x :: r) :: B)) => cfrom_held h _ v1 (x :: r) (Held.bytes (l1 := []) h) (by simp; omega))
      go_wp2_with (first
          | (go_at_call 153; refine HU.out.mono ?_; intro e w1 hp; unfold UnPost at hp; rw [HN.out] at hp; obtain ⟨v1, F1, rfl, ho, hu⟩ := hp; have HL := hid (HK.out.more (R := rBytes v1 (x :: r)) (own_bytes ho) hu); clear ho hu)
          | (go_at_call 105; refine (HC.out _ _ _ HL.out).mono ?_; rintro e w2 ⟨q, rfl, g2⟩; have G2 := hid g2; clear g2)
          | (go_at_call 154; refine (cnumber_held G2.out (by have := HX.out; omega)).mono ?_; rw [HX.out]; rintro e w3 ⟨rfl, g3⟩; have G3 := hid g3; clear g3)
          | (go_at_call 155; refine (crest_held G3.out (by omega)).mono ?_; rintro e w4 ⟨v4, rfl, g4⟩; obtain ⟨A4, c4, rfl, hc4, hm4⟩ := Held.form (l1 := []) g4; obtain ⟨bvs, hbl, g5⟩ := g4.pull2.recs_open; rw [List.length_take, Nat.min_eq_left hk] at hbl; have HBL := hid hbl; have G5 := hid g5; clear g4 g5 hbl)
          | (at_builtin; refine wpList_append_held [] _ rfl _ _ 104 rfl 87 i0 (.slice none 0 0) 24 Tryz.underlying104 HI.out.1 HI.out.2.1 HI.out.2.2.1 HI.out.2.2.2 rfl (.slice A6 k c6) bvs rfl (G5.out.alloc _) _ (.slice (some ⟨w4.heap.size, 0, none⟩) 1 1) [.slice A4 r.length c4] rfl (own_built 87 w4 [.slice A4 r.length c4] (by simp [maxLen])).rd (by simp [Value.oneCell']) ?c1 ?c2 ?c3))
      case c1 => rw [HBL.out]; simp; omega
      case c2 => rw [HBL.out]; unfold maxLen; simp; omega
      case c3 =>
        intro A7 c7 w5 q1 q2 g6
        have g7 : Held w0 w5 (rRecs (.slice A7 (bvs.length + 1) c7) (rs.take k ++ [r]) :: rBytes (.slice A b.length c) b :: B) := by
          have g8 := Held.recs_snoc (by rw [HBL.out, List.length_take, Nat.min_eq_left hk]) (by simpa using g6)
          exact g8.pull1.drop0
        have HG := hid g7
        clear g6 g7
        go_wp2_with fail
        refine ⟨⟨k + 1, by omega, ?_, HT.out ▸ HG.out⟩, ?_⟩
        · rw [HF.out]; rfl
        · show b.length - ((m : Int) + ((r.length : Int) + 8)).toNat < b.length - (m : Int).toNat
          have := HFL.out
          omega
end Go.Proofs.YtdbhccehbjhbpaaGreatDoor
