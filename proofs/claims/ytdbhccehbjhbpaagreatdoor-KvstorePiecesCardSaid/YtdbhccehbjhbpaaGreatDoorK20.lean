/- kvstore's laws: KvstorePieces. -/
import Derived.Test.YtdbhccehbjhbpaaGreatDoorK19
namespace Go.Proofs.YtdbhccehbjhbpaaGreatDoor
open Go.RowKit
open Disk (Dk Dict)
open Slog (Seg recsOf Lg)
open Kv (It KOp Items)

theorem rising_len (d : Items) (f : List UInt8 → It → Bool) : (Kv.rising d f).length ≤ d.length := by
  have := (Kv.pick_keys d f ((d.map (·.1)).mergeSort Disk.leB)).length_le
  rw [List.length_map, List.length_mergeSort, List.length_map] at this
  exact this
/-- the store behind the first k calls' commits. -/
def playK (m : Nat) (ds : List KDo) (k : Nat) : Kv.St := (kst m).play ((ds.take k).map (·.ops))
structure PlayOk (s : Kv.St) (k : Nat) : Prop where
  good : Kv.Good s
  next : s.lg.next ≤ k + 1
theorem PlayOk.ver {s : Kv.St} {k : Nat} (h : PlayOk s k) : s.version ≤ k := by have := h.good.next; have := h.next; omega
theorem playK_ok {m : Nat} (hm : m ≤ 16777216) (ds : List KDo) {k : Nat} (hk : k ≤ 60) : PlayOk (playK m ds k) k := by
  have hl : ((ds.take k).map (·.ops)).length ≤ k := by rw [List.length_map, List.length_take]; omega
  obtain ⟨h1, h2⟩ := (kst_good hm).play ((ds.take k).map (·.ops)) (by show 1 + _ ≤ 246; omega)
  refine ⟨h1, ?_⟩
  have h3 : ((kst m).play ((ds.take k).map (·.ops))).lg.next ≤ 1 + _ := h2
  show ((kst m).play ((ds.take k).map (·.ops))).lg.next ≤ k + 1
  omega
theorem playK_succ {m : Nat} {ds : List KDo} {k : Nat} (hk : k < ds.length) : playK m ds (k + 1) = ((playK m ds k).commit ds[k].ops).1 := by
  unfold playK
  rw [List.take_succ_eq_append_getElem hk, List.map_append, List.map_cons, List.map_nil, Kv.St.play_snoc]
theorem playK_all (m : Nat) (ds : List KDo) {k : Nat} (hk : ds.length ≤ k) : playK m ds k = playK m ds ds.length := by
  unfold playK
  rw [List.take_of_length_le hk, List.take_length]
theorem items_few {s : Kv.St} {k : Nat} (h : PlayOk s k) (hk : k ≤ 200) (f : List UInt8 → It → Bool) : (Kv.rising s.items f).length ≤ 60000 := by
  have := rising_len s.items f
  have := h.good.items.many
  have := h.ver
  omega

theorem le_of_gtr {a b : List UInt8} (x : (!Op.bytesLess a b && !(a == b)) = false) : a ≤ b := by
  intro h
  rw [bytesLess_eq] at x
  simp at x
  by_cases hlt : a < b
  · exact List.lt_irrefl _ (List.lt_trans hlt h)
  · exact List.lt_irrefl b (by rw [x hlt] at h; exact h)

set_option maxRecDepth 100000 in
set_option maxHeartbeats 4000000 in
theorem pieces_walk (w : World) (v : Value) (ds : List KDo) (hd : Dos (· < w.heap.size) (· < w.heap.size) w v ds) (a b c : List UInt8) :
    Calls Tryz.prog 6 #[v, sv a, sv b, sv c] w fun e w' => e = .returned (.bool true) ∧ Below w.heap.size w w' := by
  obtain ⟨A, cc, rfl, hc, hm⟩ := hd.form
  have HS := hid (short_any w _ ds hd)
  have HD := hid hd
  clear hd
  obtain ⟨n, hn⟩ : ∃ n, n = ds.length := ⟨_, rfl⟩
  have HN := hid hn
  rw [← hn] at hc HS ⊢
  clear hn
  unfold sv
  go_enter Tryz.func6, Tryz.ntmps6
  go_wp2_with fail
  refine HS.out.mono ?_
  rintro e w1 ⟨r, rfl, hr, m1⟩
  have G0 := hid ((Held.begin w).step m1)
  clear m1
  cases r with
  | false =>
    go_wp2_with (first | (go_at_call 10; refine (kawake_any _).mono ?_; rintro e w9 ⟨rfl, m9⟩; have HE := hid (G0.out.step m9); clear m9))
    go_ret
    exact ⟨rfl, HE.out.below⟩
  | true =>
    obtain ⟨hl, hb⟩ := hr rfl
    rw [← HN.out] at hl
    cases x1 : (!Op.bytesLess a b && !(a == b)) with
    | true =>
        go_wp2_with (first | (go_at_call 10; refine (kawake_any _).mono ?_; rintro e w9 ⟨rfl, m9⟩; have HE := hid (G0.out.step m9); clear m9))
        go_ret
        exact ⟨rfl, HE.out.below⟩
    | false =>
    cases x2 : (!Op.bytesLess b c && !(b == c)) with
    | true =>
        go_wp2_with (first | (go_at_call 10; refine (kawake_any _).mono ?_; rintro e w9 ⟨rfl, m9⟩; have HE := hid (G0.out.step m9); clear m9))
        go_ret
        exact ⟨rfl, HE.out.below⟩
    | false =>
    cases x3 : b.isEmpty with
    | true =>
        go_wp2_with (first | (go_at_call 10; refine (kawake_any _).mono ?_; rintro e w9 ⟨rfl, m9⟩; have HE := hid (G0.out.step m9); clear m9))
        go_ret
        exact ⟨rfl, HE.out.below⟩
    | false =>
    cases x4 : c.isEmpty with
    | true =>
        go_wp2_with (first | (go_at_call 10; refine (kawake_any _).mono ?_; rintro e w9 ⟨rfl, m9⟩; have HE := hid (G0.out.step m9); clear m9))
        go_ret
        exact ⟨rfl, HE.out.below⟩
    | false =>
    go_wp2_with (first
      | (go_at_call 11; refine (kbegun_held G0.out 16777216 (by decide)).mono ?_; rintro e w2 ⟨p, sp, rfl, g2⟩; have G2 := hid g2; clear g2))
    go_loopw [46] (fun iv wr => ∃ k : Nat, k ≤ n ∧ iv = .int .i64 k ∧ Held w wr (rKv sp p (playK 16777216 ds k) :: [])) (fun iv _ => n - (intOf iv).toNat)
    case atStart => exact ⟨0, Nat.zero_le _, rfl, G2.out⟩
    case round =>
      clear G2 G0
      obtain ⟨k, hk, rfl, hh⟩ := hrel
      by_cases hlt : k < n
      · have hlk : k < ds.length := by rw [← HN.out]; exact hlt
        obtain ⟨b1, off, q, hA, -, c0, c1, c2, c3, hops⟩ := HD.out.at hlk
        subst hA
        have hmod := hh.mod
        have d0 := hmod.cell c0 (fun h => h)
        have d1 := hmod.cell c1 (fun h => h)
        have d2 := hmod.cell c2 (fun h => h)
        have d3 := hmod.cell c3 (fun h => h)
        obtain ⟨O, oc, rfl, ho1, ho2⟩ := hops.form
        have hpk := playK_ok (m := 16777216) (by decide) ds (k := k) (by omega)
        have HSU := hid (playK_succ (m := 16777216) hlk)
        generalize playK 16777216 ds k = s at *
        generalize ds[k] = dd at *
        have hnx := hpk.next
        have HC := hid (kcommit_held (nameOk_100 w) (hh.block 32 #[.int .i64 dd.op, .slice O dd.ops.length oc, .slice dd.kA dd.kn dd.kc, .int .i64 dd.tear]).pull1 hpk.good (by omega) (by omega) _ dd.ops (hops.opsR _))
        generalize dd.ops.length = ol at *
        have hltn : (k : Int) < (n : Int) := by omega
        clear hh hmod c0 c1 c2 c3 hops hpk hnx
        go_wp2_with (first
          | (go_at_call 12; refine HC.out.mono ?_; rintro e w3 ⟨rfl, g3⟩; have G3 := hid g3.pull1.drop0; clear g3))
        refine ⟨⟨k + 1, by omega, by congr 1, ?_⟩, by show n - ((k : Int) + 1).toNat < n - (k : Int).toNat; omega⟩
        rw [HSU.out]
        exact G3.out
      · have hltn : ¬ ((k : Int) < (n : Int)) := by omega
        have hkn : k = n := by omega
        subst hkn
        have hpk := playK_ok (m := 16777216) (by decide) ds (k := k) (by omega)
        generalize playK 16777216 ds k = s at *
        have hv := hpk.ver
        have E1 := hid (Kv.scan_all s.items (b := b) (fun e => by rw [e] at x3; cases x3))
        have E2 := hid (Kv.scan_pieces s.items (le_of_gtr x1) (le_of_gtr x2) (fun e => by rw [e] at x3; cases x3) (fun e => by rw [e] at x4; cases x4))
        have HS1 := hid (fun w1 B1 (g1 : Held w w1 (rKv sp p s :: B1)) => kscan_held g1 hpk.good.items (by omega) [] b)
        obtain ⟨t1, h1⟩ : ∃ t, t = Kv.scan s.items [] b := ⟨_, rfl⟩
        have l1 : t1.length ≤ 60000 := by rw [h1]; exact items_few hpk (by omega) _
        rw [← h1] at HS1
        have HS2 := hid (fun w1 B1 (g1 : Held w w1 (rKv sp p s :: B1)) => kscan_held g1 hpk.good.items (by omega) b [])
        obtain ⟨t2, h2⟩ : ∃ t, t = Kv.scan s.items b [] := ⟨_, rfl⟩
        have l2 : t2.length ≤ 60000 := by rw [h2]; exact items_few hpk (by omega) _
        rw [← h2] at HS2
        have HS3 := hid (fun w1 B1 (g1 : Held w w1 (rKv sp p s :: B1)) => kscan_held g1 hpk.good.items (by omega) a b)
        obtain ⟨t3, h3⟩ : ∃ t, t = Kv.scan s.items a b := ⟨_, rfl⟩
        have l3 : t3.length ≤ 60000 := by rw [h3]; exact items_few hpk (by omega) _
        rw [← h3] at HS3
        have HS4 := hid (fun w1 B1 (g1 : Held w w1 (rKv sp p s :: B1)) => kscan_held g1 hpk.good.items (by omega) b c)
        obtain ⟨t4, h4⟩ : ∃ t, t = Kv.scan s.items b c := ⟨_, rfl⟩
        have l4 : t4.length ≤ 60000 := by rw [h4]; exact items_few hpk (by omega) _
        rw [← h4] at HS4
        have HS5 := hid (fun w1 B1 (g1 : Held w w1 (rKv sp p s :: B1)) => kscan_held g1 hpk.good.items (by omega) a c)
        obtain ⟨t5, h5⟩ : ∃ t, t = Kv.scan s.items a c := ⟨_, rfl⟩
        have l5 : t5.length ≤ 60000 := by rw [h5]; exact items_few hpk (by omega) _
        rw [← h5] at HS5
        have HS6 := hid (fun w1 B1 (g1 : Held w w1 (rKv sp p s :: B1)) => kscan_held g1 hpk.good.items (by omega) [] [])
        obtain ⟨t6, h6⟩ : ∃ t, t = Kv.scan s.items [] [] := ⟨_, rfl⟩
        have l6 : t6.length ≤ 60000 := by rw [h6]; exact items_few hpk (by omega) _
        rw [← h6] at HS6
        rw [← h1, ← h2, ← h6] at E1
        rw [← h3, ← h4, ← h5] at E2
        unfold sv at HS1 HS2 HS3 HS4 HS5 HS6
        have GG := hid hh
        clear h1 h2 h3 h4 h5 h6 hh x1 x2 x3 x4 hpk hv hb hr HD
        go_wp2_with (first
          | (go_at_call 14; refine (HS1.out _ _ GG.out).mono ?_; rintro e w3 ⟨v1, rfl, g1⟩; obtain ⟨A1, c1, rfl, -, -⟩ := g1.its_form; have G1 := hid g1.pull1; clear g1 GG HS1)
          | (go_at_call 14; refine (HS2.out _ _ G1.out).mono ?_; rintro e w4 ⟨v2, rfl, g2⟩; obtain ⟨A2, c2, rfl, -, -⟩ := g2.its_form; have G2 := hid g2.pull2; clear g2 G1 HS2)
          | (go_at_call 25; refine (iconcat_held (G2.out.block 38 #[.slice A1 t1.length c1, .slice A2 t2.length c2]) (by omega) (by omega)).mono ?_; rintro e w5 ⟨v3, rfl, g3⟩; rw [E1.out] at g3; obtain ⟨A3, c3, rfl, -, -⟩ := g3.its_form; have G3 := hid g3.pull1.drop0.pull1.drop0.pull1.drop0.pull1; clear g3 G2)
          | (go_at_call 14; refine (HS3.out _ _ G3.out).mono ?_; rintro e w6 ⟨v4, rfl, g4⟩; obtain ⟨A4, c4, rfl, -, -⟩ := g4.its_form; have G4 := hid g4.pull1; clear g4 G3 HS3)
          | (go_at_call 14; refine (HS4.out _ _ G4.out).mono ?_; rintro e w7 ⟨v5, rfl, g5⟩; obtain ⟨A5, c5, rfl, -, -⟩ := g5.its_form; have G5 := hid g5.pull2; clear g5 G4 HS4)
          | (go_at_call 25; refine (iconcat_held (G5.out.block 38 #[.slice A4 t3.length c4, .slice A5 t4.length c5]) (by omega) (by omega)).mono ?_; rintro e w8 ⟨v6, rfl, g6⟩; rw [E2.out] at g6; obtain ⟨A6, c6, rfl, -, -⟩ := g6.its_form; have G6 := hid g6.pull1.drop0.pull1.drop0.pull1.drop0.pull1; clear g6 G5)
          | (go_at_call 14; refine (HS5.out _ _ G6.out).mono ?_; rintro e w9 ⟨v7, rfl, g7⟩; obtain ⟨A7, c7, rfl, -, -⟩ := g7.its_form; have G7 := hid g7; clear g7 G6 HS5)
          | (go_at_call 21; refine (iequal_any _ _ _ t5 G7.out.pull2.its_rd G7.out.its_rd).mono ?_; rintro e w10 ⟨rfl, m10⟩; have G8 := hid ((G7.out.step m10).pull1); clear m10 G7)
          | (go_at_call 14; refine (HS6.out _ _ G8.out).mono ?_; rintro e w11 ⟨v8, rfl, g9⟩; obtain ⟨A8, c8, rfl, -, -⟩ := g9.its_form; have G9 := hid g9; clear g9 G8 HS6)
          | (go_at_call 21; refine (iequal_any _ _ _ t6 G9.out.pull4.its_rd G9.out.its_rd).mono ?_; rintro e w12 ⟨rfl, m12⟩; have G10 := hid (G9.out.step m12); clear m12 G9)
          | (go_at_call 10; refine (kawake_any _).mono ?_; rintro e w13 ⟨rfl, m13⟩; have HE := hid (G10.out.step m13); clear m13))
        go_ret
        exact ⟨rfl, HE.out.below⟩
end Go.Proofs.YtdbhccehbjhbpaaGreatDoor
