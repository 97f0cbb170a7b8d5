/- kvstore: rising, with Scan's closure and with Since's. (Printed by gen_K15.py.) -/
import Derived.Test.YtdbhccehbjhbpaaGreatDoorK10
import Derived.Test.YtdbhccehbjhbpaaGreatDoorK8
import Derived.Test.YtdbhccehbjhbpaaGreatDoorKP

namespace Go.Proofs.YtdbhccehbjhbpaaGreatDoor
open Go.RowKit
open Disk (Dk Dict)
open Kv (It KOp Items)

def sinceF (m : Int) : List UInt8 → It → Bool := fun _ x => decide (m < (x.at_ : Int))
theorem since_eq (d : Items) (m : Int) : Kv.since d m = Kv.rising d (sinceF m) := rfl
/-- a row of items. -/
def itRow (p : List UInt8 × It) : List Value := [sv p.1, .bool p.2.gone, sv p.2.value, .int .i64 p.2.at_]
def rIts (v : Value) (l : List (List UInt8 × It)) : Res := rRows 4 41 v (l.map itRow)
theorem Tryz.infoItem : (Tryz.prog.info? 41).map (fun i => (i.zero, i.size, i.bytes)) = some (some (.agg #[.string ⟨#[]⟩, .bool false, .string ⟨#[]⟩, .int .i64 0]), 4, 48) := by kernel_rfl
theorem Held.its_form {w0 w : World} {B : List Res} {v : Value} {l : List (List UInt8 × It)} (h : Held w0 w (rIts v l :: B)) : ∃ A c, v = .slice A l.length c ∧ l.length ≤ c ∧ c ≤ 9223372036854775807 := by
  obtain ⟨A, c, hv, h1, h2⟩ := Held.rows_form (l1 := []) h
  rw [List.length_map] at hv h1
  exact ⟨A, c, hv, h1, h2⟩
theorem Held.its_nil {w0 w : World} {B : List Res} (h : Held w0 w B) : Held w0 w (rIts (.slice none 0 0) [] :: B) := by
  have := Held.more (R := rIts (.slice none 0 0) []) (F := []) h ⟨by simp, Own.nil _ _ _⟩ (Upd.refl _ List.nodup_nil)
  exact this
theorem Held.text_cell {w0 w : World} {B : List Res} {v : Value} {l : List Disk.Bytes} (h : Held w0 w (rTexts v l :: B)) {i : Nat} (hi : i < l.length) : ∃ b off c, v = .slice (some ⟨b, off, none⟩) l.length c ∧ w.cell? ⟨b, off + i, none⟩ = some (sv l[i]) := by
  obtain ⟨A, c, hv, -, -, hA⟩ := h.texts
  rw [List.length_map] at hv
  have hr : (l.map sv)[i]? = some (sv l[i]) := by rw [List.getElem?_map, List.getElem?_eq_getElem hi]; rfl
  obtain ⟨b, off, rfl, -, hc⟩ := hA (by intro e; rw [e] at hr; simp at hr)
  exact ⟨b, off, c, hv, hc i _ hr⟩

def rising_scanAt (w0 : World) (B : List Res) (n : Nat) (tA : Option Addr) (tc : Nat) (sp p q bm : Nat) (s : Kv.St) (ks : List (List UInt8)) (fb tb : Nat) (a b : List UInt8) (out iv : Value) (wr : World) : Prop :=
  ∃ k : Nat, k ≤ n ∧ iv = .int .i64 k ∧ Held w0 wr (rIts out (Kv.pick s.items (Kv.inScan a b) (ks.take k)) :: rTexts (.slice tA n tc) ks :: rBlk sp 73 (storeCells q bm s.version s.synced) :: rItems bm s.items :: rLog q p s.lg.segs s.lg.next :: rDisk p s.dk :: rBlk fb 9 #[sv a] :: rBlk tb 9 #[sv b] :: B)

set_option maxRecDepth 100000 in
set_option maxHeartbeats 4000000 in
theorem rising_scan {w0 w : World} {B : List Res} {sp p : Nat} {s : Kv.St} {fb tb : Nat} {a b : List UInt8} (h : Held w0 w (rKv sp p s :: rBlk fb 9 #[sv a] :: rBlk tb 9 #[sv b] :: B)) (hs : Kv.ItemsOk s.items s.version) (hv : s.version ≤ 245) :
    Calls Tryz.prog 40 #[.pointer (some ⟨sp, 0, none⟩), .func (.func 41) #[] #[.pointer (some ⟨fb, 0, none⟩), .pointer (some ⟨tb, 0, none⟩)]] w fun e w' => ∃ v, e = .returned v ∧ Held w0 w' (rIts v (Kv.rising s.items (Kv.inScan a b)) :: rKv sp p s :: rBlk fb 9 #[sv a] :: rBlk tb 9 #[sv b] :: B) := by
  obtain ⟨q, bm, h1⟩ := h.kopen
  obtain ⟨c0, c2, c3, c4, c5, f0⟩ := h1.blk0.kv
  have HM := hid (kmade_any w sp q c2)
  have HK := hid (keys_it (some bm) w)
  obtain ⟨ks, hks⟩ : ∃ ks, ks = (s.items.map (·.1)).mergeSort Disk.leB := ⟨_, rfl⟩
  have hkn : ks.length = s.items.length := by rw [hks, List.length_mergeSort, List.length_map]
  have hmany := hs.many
  have HS := hid (sorted_it (s.items.map (·.1)) bm w (Held.items_at (A := [_]) h1) (by unfold itemsL; rw [List.map_map, List.map_map]; rfl) (fun n hn => by
    obtain ⟨x, hx⟩ := Kv.mem_keys.1 (List.mem_mergeSort.2 hn)
    have := (hs.each n x hx).2.1
    omega) (by rw [List.length_map]; omega))
  rw [← hks] at HS
  have HL := hid (show (s.items.map (·.1)).length = (ks.map sv).length by rw [List.length_map, List.length_map, hkn])
  have HKS := hid hks
  have HIT := hid hs
  have H1 := hid h1
  have HR := hid (show Kv.rising s.items (Kv.inScan a b) = Kv.pick s.items (Kv.inScan a b) ks by rw [hks]; rfl)
  rw [HR.out]
  have hn : ks.length ≤ 62720 := by omega
  obtain ⟨n, hn'⟩ : ∃ n, n = ks.length := ⟨_, rfl⟩
  have HN := hid hn'
  rw [← hn'] at hn
  clear h h1 c4 c5 f0 c0 hks hkn hmany hs hv hn' HR
  go_enter Tryz.func40, Tryz.ntmps40
  go_wp2_with (first
    | (go_at_call 32; refine HM.out.mono ?_; rintro e w' ⟨rfl, rfl⟩)
    | (go_at_call 76; refine HK.out.mono ?_; rintro e w' ⟨rfl, rfl⟩)
    | (go_at_call 75; refine HS.out.mono ?_; rintro e w2 ⟨tv, F', rfl, ho, hu⟩; have g2 : Held w0 w2 (rTexts tv ks :: _) := H1.out.more (F := F') (show Own _ 1 tv (ks.map sv).length _ _ _ by rw [← HL.out]; exact ho) hu; obtain ⟨tA, tc, rfl, ht1, ht2⟩ := g2.texts_form; rw [← HN.out] at g2 ht1 ⊢; have G2 := hid g2; clear g2 ho hu))
  go_loopw [5, 18] (fun out iv wr => rising_scanAt w0 B n tA tc sp p q bm s ks fb tb a b out iv wr) (fun _ iv _ => n - (intOf iv).toNat)
  case atStart => exact ⟨0, Nat.zero_le _, rfl, G2.out.its_nil⟩
  case round =>
    clear G2 HS HK HL H1 HM c2 c3
    obtain ⟨k, hk, rfl, hh⟩ := hrel
    obtain ⟨oA, oc, rfl, ho1, ho2⟩ := hh.its_form
    by_cases hlt : k < n
    · have hlk : k < ks.length := by rw [← HN.out]; exact hlt
      obtain ⟨tb0, toff, c', hv, tcell⟩ := hh.pull1.text_cell hlk
      injection hv with e1 e2 e3
      subst e1
      clear e2 e3
      obtain ⟨x, hx⟩ := (Kv.mem_keys (d := s.items)).1 (show ks[k] ∈ (s.items.map (·.1)).mergeSort Disk.leB by rw [← HKS.out]; exact List.getElem_mem hlk)
      have hkl := (HIT.out.each _ x hx).2.1
      have hts : ks.take (k + 1) = ks.take k ++ [ks[k]] := List.take_succ_eq_append_getElem hlk
      have HPK := hid (show Kv.pick s.items (Kv.inScan a b) (ks.take (k + 1)) = Kv.pick s.items (Kv.inScan a b) (ks.take k) ++ (if (Kv.inScan a b) ks[k] x = true then [(ks[k], x)] else []) by
        rw [hts, Kv.pick_append, Kv.pick_cons, hx]; simp [Kv.pick_nil])
      have hlen : (Kv.pick s.items (Kv.inScan a b) (ks.take k)).length ≤ 62720 := by
        have := (Kv.pick_keys s.items (Kv.inScan a b) (ks.take k)).length_le
        rw [List.length_map, List.length_take] at this
        omega
      generalize ks[k] = key at *
      have l1 := Held.items_lookup (A := [_, _, _]) hh (n := key) (by omega)
      rw [hx] at l1
      have HLK := hid (fun w1 (R1 R2 R3 : Res) (g1 : Held w0 w1 (R1 :: R2 :: R3 :: rItems bm s.items :: rLog q p s.lg.segs s.lg.next :: rDisk p s.dk :: rBlk fb 9 #[sv a] :: rBlk tb 9 #[sv b] :: B)) => (Held.items_lookup (A := [R1, R2, R3]) g1 (n := key) (by omega)))
      rw [hx] at HLK
      unfold lookV itemV sv at l1 HLK
      dsimp only at l1 HLK
      unfold sv at tcell
      have d3 := hh.pull2.blk0.kv.c3
      have x0 : wr.cell? ⟨fb, 0, none⟩ = some (sv a) := hh.pull6.blk0.cell rfl
      have x1 : wr.cell? ⟨tb, 0, none⟩ = some (sv b) := hh.pull7.blk0.cell rfl
      have HSC := hid (fun w1 (m1 : Mod (fun _ => False) wr w1) => scan1_any w1 key x fb tb a b (m1.cell x0 (fun h => h)) (m1.cell x1 (fun h => h)))
      clear x0 x1
      unfold itemV sv at HSC
      obtain ⟨gone, value, at_⟩ := x
      dsimp only at l1 HLK HSC HPK
      have hltn : (k : Int) < (n : Int) := by omega
      generalize Kv.pick s.items (Kv.inScan a b) (ks.take k) = pk at *
      generalize hpn : pk.length = pn at *
      have HPN := hid hpn
      have HH := hid hh
      clear hh hx hts hpn hkl
      cases hff : (Kv.inScan a b) key ⟨gone, value, at_⟩ with
      | true =>
        rw [hff] at HSC HPK
        have HP2 := hid (HPK.out.trans (show _ = pk ++ [(key, ⟨gone, value, at_⟩)] by rw [if_pos rfl]))
        clear HPK
        obtain ⟨iI, iz, is, ib, iy⟩ := info_parts Tryz.infoItem
        have HI := hid (And.intro iz (And.intro is (And.intro ib iy)))
        clear iz is ib iy
        go_wp2_with (first
          | (go_at_call 41; refine (HSC.out _ (Mod.refl _ _)).mono ?_; rintro e w3 ⟨rfl, m3⟩; have g3 := HH.out.step m3; have d3' := g3.pull2.blk0.kv.c3; have l3 := HLK.out _ _ _ _ g3; have G3 := hid g3; clear g3 m3)
          | (at_builtin; refine wpList_append_row [] _ rfl _ _ 38 rfl 4 41 iI _ 48 Tryz.underlying38 HI.out.1 HI.out.2.1 HI.out.2.2.1 HI.out.2.2.2 rfl (by decide) (.slice oA pn oc) (pk.map itRow) pn (by rw [List.length_map]; exact HPN.out) rfl (G3.out.step ((Mod.refl _ _).alloc _)) _ _ [.string ⟨key.toArray⟩, .bool gone, .string ⟨value.toArray⟩, .int .i64 at_] rfl rfl (World.news_of_block (heap_alloc_new w3 _)) (by intro u hu; simp only [List.mem_cons, List.not_mem_nil, or_false] at hu; rcases hu with rfl | rfl | rfl | rfl <;> rfl) (by omega) (by unfold maxLen; omega) ?c8))
        case c8 =>
          intro A' c'' w4 p1 p2 g4
          have G4 := hid g4
          clear g4
          go_wp2_with fail
          refine ⟨⟨k + 1, by omega, by congr 1, ?_⟩, by show n - ((k : Int) + 1).toNat < n - (k : Int).toNat; omega⟩
          rw [HP2.out]
          unfold rIts
          rw [List.map_append]
          exact G4.out
      | false =>
        rw [hff] at HSC HPK
        have HP2 := hid (HPK.out.trans (show _ = pk by rw [if_neg (by decide), List.append_nil]))
        clear HPK
        go_wp2_with (first
          | (go_at_call 41; refine (HSC.out _ (Mod.refl _ _)).mono ?_; rintro e w3 ⟨rfl, m3⟩; have G3 := hid (HH.out.step m3); clear m3))
        refine ⟨⟨k + 1, by omega, by congr 1, ?_⟩, by show n - ((k : Int) + 1).toNat < n - (k : Int).toNat; omega⟩
        rw [HP2.out]
        exact G3.out
    · have hltn : ¬ ((k : Int) < (n : Int)) := by omega
      rw [List.take_of_length_le (by rw [← HN.out]; omega)] at hh ⊢
      generalize (Kv.pick s.items (Kv.inScan a b) ks).length = pn at *
      have HH := hid hh
      clear hh
      go_wp2_with fail
      go_ret
      exact ⟨_, rfl, (Held.kshut s HH.out.pull1.drop0.pull4.pull4.pull4.pull4).pull1⟩

def rising_sinceAt (w0 : World) (B : List Res) (n : Nat) (tA : Option Addr) (tc : Nat) (sp p q bm : Nat) (s : Kv.St) (ks : List (List UInt8)) (vb : Nat) (m : Int) (out iv : Value) (wr : World) : Prop :=
  ∃ k : Nat, k ≤ n ∧ iv = .int .i64 k ∧ Held w0 wr (rIts out (Kv.pick s.items (sinceF m) (ks.take k)) :: rTexts (.slice tA n tc) ks :: rBlk sp 73 (storeCells q bm s.version s.synced) :: rItems bm s.items :: rLog q p s.lg.segs s.lg.next :: rDisk p s.dk :: rBlk vb 3 #[.int .i64 m] :: B)

set_option maxRecDepth 100000 in
set_option maxHeartbeats 4000000 in
theorem rising_since {w0 w : World} {B : List Res} {sp p : Nat} {s : Kv.St} {vb : Nat} {m : Int} (h : Held w0 w (rKv sp p s :: rBlk vb 3 #[.int .i64 m] :: B)) (hs : Kv.ItemsOk s.items s.version) (hv : s.version ≤ 245) :
    Calls Tryz.prog 40 #[.pointer (some ⟨sp, 0, none⟩), .func (.func 42) #[] #[.pointer (some ⟨vb, 0, none⟩)]] w fun e w' => ∃ v, e = .returned v ∧ Held w0 w' (rIts v (Kv.rising s.items (sinceF m)) :: rKv sp p s :: rBlk vb 3 #[.int .i64 m] :: B) := by
  obtain ⟨q, bm, h1⟩ := h.kopen
  obtain ⟨c0, c2, c3, c4, c5, f0⟩ := h1.blk0.kv
  have HM := hid (kmade_any w sp q c2)
  have HK := hid (keys_it (some bm) w)
  obtain ⟨ks, hks⟩ : ∃ ks, ks = (s.items.map (·.1)).mergeSort Disk.leB := ⟨_, rfl⟩
  have hkn : ks.length = s.items.length := by rw [hks, List.length_mergeSort, List.length_map]
  have hmany := hs.many
  have HS := hid (sorted_it (s.items.map (·.1)) bm w (Held.items_at (A := [_]) h1) (by unfold itemsL; rw [List.map_map, List.map_map]; rfl) (fun n hn => by
    obtain ⟨x, hx⟩ := Kv.mem_keys.1 (List.mem_mergeSort.2 hn)
    have := (hs.each n x hx).2.1
    omega) (by rw [List.length_map]; omega))
  rw [← hks] at HS
  have HL := hid (show (s.items.map (·.1)).length = (ks.map sv).length by rw [List.length_map, List.length_map, hkn])
  have HKS := hid hks
  have HIT := hid hs
  have H1 := hid h1
  have HR := hid (show Kv.rising s.items (sinceF m) = Kv.pick s.items (sinceF m) ks by rw [hks]; rfl)
  rw [HR.out]
  have hn : ks.length ≤ 62720 := by omega
  obtain ⟨n, hn'⟩ : ∃ n, n = ks.length := ⟨_, rfl⟩
  have HN := hid hn'
  rw [← hn'] at hn
  clear h h1 c4 c5 f0 c0 hks hkn hmany hs hv hn' HR
  go_enter Tryz.func40, Tryz.ntmps40
  go_wp2_with (first
    | (go_at_call 32; refine HM.out.mono ?_; rintro e w' ⟨rfl, rfl⟩)
    | (go_at_call 76; refine HK.out.mono ?_; rintro e w' ⟨rfl, rfl⟩)
    | (go_at_call 75; refine HS.out.mono ?_; rintro e w2 ⟨tv, F', rfl, ho, hu⟩; have g2 : Held w0 w2 (rTexts tv ks :: _) := H1.out.more (F := F') (show Own _ 1 tv (ks.map sv).length _ _ _ by rw [← HL.out]; exact ho) hu; obtain ⟨tA, tc, rfl, ht1, ht2⟩ := g2.texts_form; rw [← HN.out] at g2 ht1 ⊢; have G2 := hid g2; clear g2 ho hu))
  go_loopw [5, 18] (fun out iv wr => rising_sinceAt w0 B n tA tc sp p q bm s ks vb m out iv wr) (fun _ iv _ => n - (intOf iv).toNat)
  case atStart => exact ⟨0, Nat.zero_le _, rfl, G2.out.its_nil⟩
  case round =>
    clear G2 HS HK HL H1 HM c2 c3
    obtain ⟨k, hk, rfl, hh⟩ := hrel
    obtain ⟨oA, oc, rfl, ho1, ho2⟩ := hh.its_form
    by_cases hlt : k < n
    · have hlk : k < ks.length := by rw [← HN.out]; exact hlt
      obtain ⟨tb0, toff, c', hv, tcell⟩ := hh.pull1.text_cell hlk
      injection hv with e1 e2 e3
      subst e1
      clear e2 e3
      obtain ⟨x, hx⟩ := (Kv.mem_keys (d := s.items)).1 (show ks[k] ∈ (s.items.map (·.1)).mergeSort Disk.leB by rw [← HKS.out]; exact List.getElem_mem hlk)
      have hkl := (HIT.out.each _ x hx).2.1
      have hts : ks.take (k + 1) = ks.take k ++ [ks[k]] := List.take_succ_eq_append_getElem hlk
      have HPK := hid (show Kv.pick s.items (sinceF m) (ks.take (k + 1)) = Kv.pick s.items (sinceF m) (ks.take k) ++ (if (sinceF m) ks[k] x = true then [(ks[k], x)] else []) by
        rw [hts, Kv.pick_append, Kv.pick_cons, hx]; simp [Kv.pick_nil])
      have hlen : (Kv.pick s.items (sinceF m) (ks.take k)).length ≤ 62720 := by
        have := (Kv.pick_keys s.items (sinceF m) (ks.take k)).length_le
        rw [List.length_map, List.length_take] at this
        omega
      generalize ks[k] = key at *
      have l1 := Held.items_lookup (A := [_, _, _]) hh (n := key) (by omega)
      rw [hx] at l1
      have HLK := hid (fun w1 (R1 R2 R3 : Res) (g1 : Held w0 w1 (R1 :: R2 :: R3 :: rItems bm s.items :: rLog q p s.lg.segs s.lg.next :: rDisk p s.dk :: rBlk vb 3 #[.int .i64 m] :: B)) => (Held.items_lookup (A := [R1, R2, R3]) g1 (n := key) (by omega)))
      rw [hx] at HLK
      unfold lookV itemV sv at l1 HLK
      dsimp only at l1 HLK
      unfold sv at tcell
      have d3 := hh.pull2.blk0.kv.c3
      have x0 : wr.cell? ⟨vb, 0, none⟩ = some (.int .i64 m) := hh.pull6.blk0.cell rfl
      have HSC := hid (fun w1 (m1 : Mod (fun _ => False) wr w1) => (show Calls _ _ _ w1 fun e w' => e = .returned (.bool (sinceF m key x)) ∧ Mod (fun _ => False) w1 w' from since1_any w1 key x vb m (m1.cell x0 (fun h => h))))
      clear x0
      unfold itemV sv at HSC
      obtain ⟨gone, value, at_⟩ := x
      dsimp only at l1 HLK HSC HPK
      have hltn : (k : Int) < (n : Int) := by omega
      generalize Kv.pick s.items (sinceF m) (ks.take k) = pk at *
      generalize hpn : pk.length = pn at *
      have HPN := hid hpn
      have HH := hid hh
      clear hh hx hts hpn hkl
      cases hff : (sinceF m) key ⟨gone, value, at_⟩ with
      | true =>
        rw [hff] at HSC HPK
        have HP2 := hid (HPK.out.trans (show _ = pk ++ [(key, ⟨gone, value, at_⟩)] by rw [if_pos rfl]))
        clear HPK
        obtain ⟨iI, iz, is, ib, iy⟩ := info_parts Tryz.infoItem
        have HI := hid (And.intro iz (And.intro is (And.intro ib iy)))
        clear iz is ib iy
        go_wp2_with (first
          | (go_at_call 42; refine (HSC.out _ (Mod.refl _ _)).mono ?_; rintro e w3 ⟨rfl, m3⟩; have g3 := HH.out.step m3; have d3' := g3.pull2.blk0.kv.c3; have l3 := HLK.out _ _ _ _ g3; have G3 := hid g3; clear g3 m3)
          | (at_builtin; refine wpList_append_row [] _ rfl _ _ 38 rfl 4 41 iI _ 48 Tryz.underlying38 HI.out.1 HI.out.2.1 HI.out.2.2.1 HI.out.2.2.2 rfl (by decide) (.slice oA pn oc) (pk.map itRow) pn (by rw [List.length_map]; exact HPN.out) rfl (G3.out.step ((Mod.refl _ _).alloc _)) _ _ [.string ⟨key.toArray⟩, .bool gone, .string ⟨value.toArray⟩, .int .i64 at_] rfl rfl (World.news_of_block (heap_alloc_new w3 _)) (by intro u hu; simp only [List.mem_cons, List.not_mem_nil, or_false] at hu; rcases hu with rfl | rfl | rfl | rfl <;> rfl) (by omega) (by unfold maxLen; omega) ?c8))
        case c8 =>
          intro A' c'' w4 p1 p2 g4
          have G4 := hid g4
          clear g4
          go_wp2_with fail
          refine ⟨⟨k + 1, by omega, by congr 1, ?_⟩, by show n - ((k : Int) + 1).toNat < n - (k : Int).toNat; omega⟩
          rw [HP2.out]
          unfold rIts
          rw [List.map_append]
          exact G4.out
      | false =>
        rw [hff] at HSC HPK
        have HP2 := hid (HPK.out.trans (show _ = pk by rw [if_neg (by decide), List.append_nil]))
        clear HPK
        go_wp2_with (first
          | (go_at_call 42; refine (HSC.out _ (Mod.refl _ _)).mono ?_; rintro e w3 ⟨rfl, m3⟩; have G3 := hid (HH.out.step m3); clear m3))
        refine ⟨⟨k + 1, by omega, by congr 1, ?_⟩, by show n - ((k : Int) + 1).toNat < n - (k : Int).toNat; omega⟩
        rw [HP2.out]
        exact G3.out
    · have hltn : ¬ ((k : Int) < (n : Int)) := by omega
      rw [List.take_of_length_le (by rw [← HN.out]; omega)] at hh ⊢
      generalize (Kv.pick s.items (sinceF m) ks).length = pn at *
      have HH := hid hh
      clear hh
      go_wp2_with fail
      go_ret
      exact ⟨_, rfl, (Held.kshut s HH.out.pull1.drop0.pull4.pull4.pull4.pull4).pull1⟩
end Go.Proofs.YtdbhccehbjhbpaaGreatDoor
