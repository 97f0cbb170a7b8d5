/- kvstore: a law. (Several texts in one file, by mz.py.) -/
import Derived.Test.YtdbhccehbjhbpaaGreatDoorK19
import Derived.Test.YtdbhccehbjhbpaaGreatDoorK3
import Derived.Test.YtdbhccehbjhbpaaGreatDoorT8
import Derived.Lib.SmallJoins
import Derived.Lib.AppendIntMem
import Derived.Lib.LaidTab
import Derived.LaidSub
import Derived.BigQuiet
import Derived.Deep.QuietTactic
import Derived.Test.YtdbhccehbjhbpaaGreatDoorRows

/- kvstore's laws: what the commits of a list of calls make. -/
namespace Go.Proofs.YtdbhccehbjhbpaaGreatDoor
open Go.RowKit
open Disk (Dk Dict)
open Slog (Seg recsOf Lg)
open Kv (It KOp Items)

theorem rising_len (d : Items) (f : List UInt8 → It → Bool) : (Kv.rising d f).length ≤ d.length := by
  have := (Kv.pick_keys d f ((d.map (·.1)).mergeSort Disk.leB)).length_le
  rw [List.length_map, List.length_mergeSort, List.length_map] at this
  exact this
/-- the store behind the first k calls' commits. -/
def playK (m : Nat) (ds : List KDo) (k : Nat) : Kv.St := (kst m).play ((ds.take k).map (·.ops))
structure PlayOk (s : Kv.St) (k : Nat) : Prop where
  good : Kv.Good s
  next : s.lg.next ≤ k + 1
theorem PlayOk.ver {s : Kv.St} {k : Nat} (h : PlayOk s k) : s.version ≤ k := by have := h.good.next; have := h.next; omega
theorem playK_ok {m : Nat} (hm : m ≤ 16777216) (ds : List KDo) {k : Nat} (hk : k ≤ 60) : PlayOk (playK m ds k) k := by
  have hl : ((ds.take k).map (·.ops)).length ≤ k := by rw [List.length_map, List.length_take]; omega
  obtain ⟨h1, h2⟩ := (kst_good hm).play ((ds.take k).map (·.ops)) (by show 1 + _ ≤ 246; omega)
  refine ⟨h1, ?_⟩
  have h3 : ((kst m).play ((ds.take k).map (·.ops))).lg.next ≤ 1 + _ := h2
  show ((kst m).play ((ds.take k).map (·.ops))).lg.next ≤ k + 1
  omega
theorem playK_succ {m : Nat} {ds : List KDo} {k : Nat} (hk : k < ds.length) : playK m ds (k + 1) = ((playK m ds k).commit ds[k].ops).1 := by
  unfold playK
  rw [List.take_succ_eq_append_getElem hk, List.map_append, List.map_cons, List.map_nil, Kv.St.play_snoc]
theorem playK_all (m : Nat) (ds : List KDo) {k : Nat} (hk : ds.length ≤ k) : playK m ds k = playK m ds ds.length := by
  unfold playK
  rw [List.take_of_length_le hk, List.take_length]
theorem items_few {s : Kv.St} {k : Nat} (h : PlayOk s k) (hk : k ≤ 200) (f : List UInt8 → It → Bool) : (Kv.rising s.items f).length ≤ 60000 := by
  have := rising_len s.items f
  have := h.good.items.many
  have := h.ver
  omega

theorem le_of_gtr {a b : List UInt8} (x : (!Op.bytesLess a b && !(a == b)) = false) : a ≤ b := by
  intro h
  rw [bytesLess_eq] at x
  simp at x
  by_cases hlt : a < b
  · exact List.lt_irrefl _ (List.lt_trans hlt h)
  · exact List.lt_irrefl b (by rw [x hlt] at h; exact h)

end Go.Proofs.YtdbhccehbjhbpaaGreatDoor

/- kvstore's laws: KvstoreNews, plain: its loops. -/
namespace Go.Proofs.YtdbhccehbjhbpaaGreatDoor
open Go.RowKit
open Disk (Dk Dict get_mem get_none put_new)
open Kv (It KOp Items)

theorem playK_ok2 {m : Nat} (hm : m ≤ 16777216) (ds : List KDo) {k : Nat} (hk : k ≤ 200) : PlayOk (playK m ds k) k := by
  have hl : ((ds.take k).map (·.ops)).length ≤ k := by rw [List.length_map, List.length_take]; omega
  obtain ⟨h1, h2⟩ := (kst_good hm).play ((ds.take k).map (·.ops)) (by show 1 + _ ≤ 246; omega)
  refine ⟨h1, ?_⟩
  have h3 : ((kst m).play ((ds.take k).map (·.ops))).lg.next ≤ 1 + _ := h2
  show ((kst m).play ((ds.take k).map (·.ops))).lg.next ≤ k + 1
  omega
theorem playK_left {m : Nat} {ds es : List KDo} {k : Nat} (hk : k < ds.length) : playK m (ds ++ es) (k + 1) = ((playK m (ds ++ es) k).commit ds[k].ops).1 := by
  rw [playK_succ (by rw [List.length_append]; omega), List.getElem_append_left hk]
theorem playK_right {m : Nat} {ds es : List KDo} {n k : Nat} (hn : n = ds.length) (hk : k < es.length) : playK m (ds ++ es) (n + (k + 1)) = ((playK m (ds ++ es) (n + k)).commit es[k].ops).1 := by
  subst hn
  rw [← Nat.add_assoc]
  rw [playK_succ (by rw [List.length_append]; omega), List.getElem_append_right (by omega)]
  simp
/-- what changed behind the n-th of these calls has a later version. -/
theorem play_news {m : Nat} (hm : m ≤ 16777216) (ds : List KDo) (n : Nat) : ∀ k, n + k ≤ ds.length → ds.length ≤ 200 →
    Kv.News (playK m ds n).items (playK m ds (n + k)).items (playK m ds n).version ∧ (playK m ds n).version ≤ (playK m ds (n + k)).version := by
  intro k
  induction k with
  | zero => intro _ _; exact ⟨Kv.News.refl _ _, Nat.le_refl _⟩
  | succ k ih =>
    intro hk hl
    obtain ⟨h1, h2⟩ := ih (by omega) hl
    have hp := playK_ok2 hm ds (k := n + k) (by omega)
    have hnx := hp.next
    rw [← Nat.add_assoc, playK_succ (k := n + k) (by omega)]
    exact h1.commit h2 hp.good (by omega) _

/-- a map of what is told so far, put in one by one. -/
theorem put_next {l : List (List UInt8 × It)} (hn : (l.map (·.1)).Nodup) {k : Nat} (hk : k < l.length) : Dict.put (l.take k).reverse l[k].1 l[k].2 = (l.take (k + 1)).reverse := by
  have hnone : Dict.get (l.take k).reverse l[k].1 = none := by
    cases hg : Dict.get (l.take k).reverse l[k].1 with
    | none => rfl
    | some x =>
      have h1 := List.mem_reverse.1 (get_mem hg)
      obtain ⟨i, hi, e⟩ := List.mem_iff_getElem.1 h1
      rw [List.length_take] at hi
      rw [List.getElem_take] at e
      have h2 := List.pairwise_iff_getElem.1 hn i k (by rw [List.length_map]; omega) (by rw [List.length_map]; omega) (by omega)
      simp only [List.getElem_map] at h2
      exact absurd (congrArg Prod.fst e) h2
  rw [put_new hnone, List.take_succ_eq_append_getElem hk, List.reverse_append]
  rfl
theorem over_snoc : ∀ (l : List (List UInt8 × It)) (t : Items) (p : List UInt8 × It), Kv.over t (l ++ [p]) = if p.2.gone = true then Dict.del (Dict.put (Kv.over t l) p.1 p.2) p.1 else Dict.put (Kv.over t l) p.1 p.2 := by
  intro l
  induction l with
  | nil => intro t p; rfl
  | cons q l ih => intro t p; exact ih _ p
theorem over_next {l : List (List UInt8 × It)} (t : Items) {k : Nat} (hk : k < l.length) : Kv.over t (l.take (k + 1)) = if l[k].2.gone = true then Dict.del (Dict.put (Kv.over t (l.take k)) l[k].1 l[k].2) l[k].1 else Dict.put (Kv.over t (l.take k)) l[k].1 l[k].2 := by
  rw [List.take_succ_eq_append_getElem hk, over_snoc]
/-- the key told last. -/
def lastK (l : List (List UInt8 × It)) : Nat → List UInt8
  | 0 => []
  | k + 1 => (l.map (·.1)).getD k []
theorem lastK_succ {l : List (List UInt8 × It)} {k : Nat} (hk : k < l.length) : lastK l (k + 1) = l[k].1 := by
  show (l.map (·.1)).getD k [] = _
  rw [List.getD_eq_getElem?_getD, List.getElem?_map, List.getElem?_eq_getElem hk]
  rfl
theorem not_leq {a b : List UInt8} (h : b < a) : (Op.bytesLess a b || a == b) = false := by
  rw [bytesLess_eq, Bool.or_eq_false_iff]
  refine ⟨decide_eq_false fun h2 => List.lt_irrefl _ (List.lt_trans h h2), ?_⟩
  rw [beq_eq_false_iff_ne]
  rintro rfl
  exact List.lt_irrefl _ h
/-- what the loop over the news asks of each. -/
theorem since_each {e : Items} {u : Nat} (he : Kv.ItemsOk e u) (v : Nat) {k : Nat} (hk : k < (Kv.since e v).length) :
    (Kv.since e v)[k].1.length ≤ 128 ∧ v < (Kv.since e v)[k].2.at_ ∧ (Kv.since e v)[k].2.at_ ≤ u ∧ lastK (Kv.since e v) k < (Kv.since e v)[k].1 := by
  have hm : ((Kv.since e v)[k].1, (Kv.since e v)[k].2) ∈ Kv.since e v := List.getElem_mem hk
  obtain ⟨h1, h2⟩ := Kv.mem_rising.1 (show _ ∈ Kv.rising e _ from hm)
  obtain ⟨a, b, -, -, c, -⟩ := he.each _ _ h1
  have h3 : (v : Int) < _ := of_decide_eq_true h2
  refine ⟨b, by omega, c, ?_⟩
  cases k with
  | zero =>
    show [] < _
    cases hc : (Kv.since e v)[0].1 with
    | nil => exact absurd hc a
    | cons x l => exact List.Lex.nil
  | succ k =>
    have hr : ((Kv.since e v).map (·.1)).Pairwise (· < ·) := Kv.rising_lt he.ok _
    rw [lastK_succ (by omega)]
    have := List.pairwise_iff_getElem.1 hr k (k + 1) (by rw [List.length_map]; omega) (by rw [List.length_map]; omega) (by omega)
    simpa only [List.getElem_map] using this
/-- what the last loop asks of each. -/
theorem scan_each {d e : Items} {u v : Nat} (he : Kv.ItemsOk e u) (hn : Kv.News d e v) {k : Nat} (hk : k < (Kv.scan e [] []).length) :
    (Kv.scan e [] [])[k].1.length ≤ 128 ∧ Dict.get (Kv.over (Kv.scan d [] []) (Kv.since e v)) (Kv.scan e [] [])[k].1 = some (Kv.scan e [] [])[k].2 := by
  have hm : ((Kv.scan e [] [])[k].1, (Kv.scan e [] [])[k].2) ∈ Kv.scan e [] [] := List.getElem_mem hk
  obtain ⟨h1, h2⟩ := Kv.mem_rising.1 (show _ ∈ Kv.rising e _ from hm)
  obtain ⟨-, b, -, -, -, -⟩ := he.each _ _ h1
  refine ⟨b, ?_⟩
  rw [Kv.news_get he.ok hn, Kv.get, h1]
  have := (Kv.inScan_iff.1 h2).1
  simp [this]
end Go.Proofs.YtdbhccehbjhbpaaGreatDoor

/- seglog: the names of numbers of three digits, where the powers of ten lie as the program's text lays them. -/
namespace Go.Proofs.YtdbhccehbjhbpaaGreatDoor
open Go.RowKit Go.Shelf
open Slog (nameB)

theorem pow_named : Tryz.prog.globalNamed "internal/strconv.uint64pow10" = some (Tryz.itoaL_ren.g 17) := by kernel_rfl
theorem dec_len3 : ∀ n : Fin 248, 100 ≤ n.val → (Lib.decDigits n.val).length = 3 := by decide +kernel
theorem name_dec3 : ∀ n : Fin 248, 100 ≤ n.val → [115, 101, 103, 46] ++ Lib.repeatL [48] 16 ++ Lib.decDigits n.val = nameB n.val := by decide +kernel

set_option maxRecDepth 100000 in
theorem name3_any (w : World) (htab : Lib.TabIs Tryz.prog w "internal/strconv.uint64pow10" .u64 Lib.pow10Tab) (n : Nat) (h1 : 100 ≤ n) (hn : n < 248) : Calls Tryz.prog 72 #[.int .i64 n] w fun e w' => e = .returned (sv (nameB n)) ∧ Mod (fun _ => False) w w' := by
  have HI := hid (Any.strconv_Itoa Tryz.itoaL (n : Int) (by omega) (by omega) w htab)
  rw [Lib.itoa_nonneg] at HI
  have hl := dec_len3 ⟨n, hn⟩ h1
  have HN := hid (name_dec3 ⟨n, hn⟩ h1)
  dsimp only at hl HN
  have hs : (ByteArray.mk (Lib.decDigits n).toArray).size = 3 := by rw [← hl]; simp [ByteArray.size]
  have HR := hid (fun w => repeat_any w ⟨#[48]⟩ 16 (by decide) (by decide) (by decide) (by decide))
  have k1 : (Lib.repeatL [48] 16).length = 16 := by rw [Lib.repeatL_length]; rfl
  have k3 : ¬ (9223372036854775807 < 4 + 16 + 3) := by omega
  generalize Lib.decDigits n = dd at *
  clear hl h1
  go_enter Tryz.func72, Tryz.ntmps72
  go_wp2_with (first
    | (go_at_call 126; refine HI.out.mono ?_; rintro e w' ⟨rfl, k, os, rfl⟩; have HM := hid (Mod.of_below (S := fun _ => False) (Lib.below_grow w.heap.size w (Nat.le_refl _) k os)); generalize Sort.grow (w.drewN k) os = w0 at *)
    | (go_at_call 127; refine (HR.out _).mono ?_; rintro e w1 ⟨rfl, hb⟩; have HB := hid (HM.out.trans' (Mod.of_below (S := fun _ => False) hb)); clear hb))
  go_ret
  refine ⟨?_, HB.out⟩
  have hN := HN.out
  rw [← hN]
  show Ending.returned (.string (⟨#[115, 101, 103, 46]⟩ ++ ⟨(Lib.repeatL [48] 16).toArray⟩ ++ ⟨dd.toArray⟩)) = _
  unfold sv
  congr 2
theorem nameOk_248 {w0 : World} (htab : Lib.TabIs Tryz.prog w0 "internal/strconv.uint64pow10" .u64 Lib.pow10Tab) : NameOk w0 248 := fun n hn w hm => by
  rcases Nat.lt_or_ge n 100 with h | h
  · exact name_any w n h
  · exact name3_any w (Joins.tab_stays pow_named htab (hm.below (Nat.le_refl _) fun _ _ h => h) (Nat.le_refl _)) n h hn
end Go.Proofs.YtdbhccehbjhbpaaGreatDoor

/- kvstore's laws: KvstoreNews. (Printed by gen_K26.py.) -/
namespace Go.Proofs.YtdbhccehbjhbpaaGreatDoor
open Go.RowKit
open Disk (Dk Dict)
open Slog (Seg recsOf Lg)
open Kv (It KOp Items)

set_option maxRecDepth 100000 in
set_option maxHeartbeats 4000000 in
theorem news_walk (w : World) (htab : Lib.TabIs Tryz.prog w "internal/strconv.uint64pow10" .u64 Lib.pow10Tab) (v : Value) (ds : List KDo) (hd : Dos (· < w.heap.size) (· < w.heap.size) w v ds) (u : Value) (es : List KDo) (he : Dos (· < w.heap.size) (· < w.heap.size) w u es) :
    Calls Tryz.prog 3 #[v, u] w fun e w' => e = .returned (.bool true) ∧ Below w.heap.size w w' := by
  obtain ⟨A, cc, rfl, hc, hm⟩ := hd.form
  obtain ⟨E, ec, rfl, hec, hem⟩ := he.form
  have HNM := hid (nameOk_248 htab)
  have HS := hid (short_any w _ ds hd)
  have HS2 := hid (fun w1 (m1 : Mod (fun _ => False) w w1) => short_any w1 _ es (he.keep (w' := w1) fun b _ hl => m1.block b hl (fun h => h)))
  have HD := hid hd
  have HE := hid he
  clear hd he htab
  obtain ⟨n, hn⟩ : ∃ n, n = ds.length := ⟨_, rfl⟩
  have HN := hid hn
  obtain ⟨m, hm'⟩ : ∃ m, m = es.length := ⟨_, rfl⟩
  have HM := hid hm'
  rw [← hn] at hc HS ⊢
  rw [← hm'] at hec HS2 ⊢
  clear hn hm'
  go_enter Tryz.func3, Tryz.ntmps3
  go_wp2_with fail
  refine HS.out.mono ?_
  rintro e w1 ⟨r, rfl, hr, m1⟩
  have G0 := hid ((Held.begin w).step m1)
  have HS3 := hid (HS2.out _ m1)
  clear m1 HS HS2
  cases r with
  | false =>
    go_wp2_with (first | (go_at_call 10; refine (kawake_any _).mono ?_; rintro e w9 ⟨rfl, m9⟩; have HE9 := hid (G0.out.step m9); clear m9))
    go_ret
    exact ⟨rfl, HE9.out.below⟩
  | true =>
    have hl := (hr rfl).1
    rw [← HN.out] at hl
    clear hr
    go_wp2_with fail
    refine HS3.out.mono ?_
    rintro e w2 ⟨r2, rfl, hr2, m2⟩
    have G1 := hid (G0.out.step m2)
    clear m2 G0 HS3
    cases r2 with
    | false =>
      go_wp2_with (first | (go_at_call 10; refine (kawake_any _).mono ?_; rintro e w9 ⟨rfl, m9⟩; have HE9 := hid (G1.out.step m9); clear m9))
      go_ret
      exact ⟨rfl, HE9.out.below⟩
    | true =>
      have hl2 := (hr2 rfl).1
      rw [← HM.out] at hl2
      clear hr2
      go_wp2_with (first
        | (go_at_call 11; refine (kbegun_held G1.out 16777216 (by decide)).mono ?_; rintro e w3 ⟨p, sp, rfl, g2⟩; have G2 := hid g2; clear g2))
      go_loopw [40] (fun iv wr => ∃ k : Nat, k ≤ n ∧ iv = .int .i64 k ∧ Held w wr (rKv sp p (playK 16777216 (ds ++ es) k) :: [])) (fun iv _ => n - (intOf iv).toNat)
      case atStart => exact ⟨0, Nat.zero_le _, rfl, G2.out⟩
      case round =>
        clear G2 G1
        obtain ⟨k, hk, rfl, hh⟩ := hrel
        by_cases hlt : k < n
        · have hlk : k < ds.length := by rw [← HN.out]; exact hlt
          obtain ⟨b1, off, q, hA, -, c0, c1, c2, c3, hops⟩ := HD.out.at hlk
          subst hA
          have hmod := hh.mod
          have d0 := hmod.cell c0 (fun h => h)
          have d1 := hmod.cell c1 (fun h => h)
          have d2 := hmod.cell c2 (fun h => h)
          have d3 := hmod.cell c3 (fun h => h)
          obtain ⟨O, oc, rfl, ho1, ho2⟩ := hops.form
          have hpk := playK_ok2 (m := 16777216) (by decide) (ds ++ es) (k := k) (by omega)
          have HSU := hid (playK_left (m := 16777216) (es := es) hlk)
          generalize playK 16777216 (ds ++ es) k = s at *
          generalize ds[k] = dd at *
          have hnx := hpk.next
          have HC := hid (kcommit_held HNM.out (hh.block 32 #[.int .i64 dd.op, .slice O dd.ops.length oc, .slice dd.kA dd.kn dd.kc, .int .i64 dd.tear]).pull1 hpk.good (by omega) (by omega) _ dd.ops (hops.opsR _))
          generalize dd.ops.length = ol at *
          have hltn : (k : Int) < (n : Int) := by omega
          clear hh hmod c0 c1 c2 c3 hops hpk hnx
          go_wp2_with (first
            | (go_at_call 12; refine HC.out.mono ?_; rintro e w3 ⟨rfl, g3⟩; have G3 := hid g3.pull1.drop0; clear g3))
          refine ⟨⟨k + 1, by omega, by congr 1, ?_⟩, by show n - ((k : Int) + 1).toNat < n - (k : Int).toNat; omega⟩
          rw [HSU.out]
          exact G3.out
        · have hltn : ¬ ((k : Int) < (n : Int)) := by omega
          have hkn : k = n := by omega
          subst hkn
          have hpk := playK_ok2 (m := 16777216) (by decide) (ds ++ es) (k := k) (by omega)
          have HNEWS := hid (fun j (hj : j ≤ m) => play_news (m := 16777216) (by decide) (ds ++ es) k j (by rw [List.length_append, ← HN.out, ← HM.out]; omega) (by rw [List.length_append, ← HN.out, ← HM.out]; omega))
          have hv := hpk.ver
          have HV := hid (fun w1 B1 (g1 : Held w w1 (rKv sp p (playK 16777216 (ds ++ es) k) :: B1)) => kversion_held g1)
          have HSC := hid (fun w1 B1 (g1 : Held w w1 (rKv sp p (playK 16777216 (ds ++ es) k) :: B1)) => kscan_held g1 hpk.good.items (by omega) [] [])
          have HND := hid (Kv.rising_nodup hpk.good.items.ok (Kv.inScan [] []))
          have HKL := hid (fun j (hj : j < (Kv.scan (playK 16777216 (ds ++ es) k).items [] []).length) => (scan_each hpk.good.items (Kv.News.refl _ 0) hj).1)
          have hl0 := items_few hpk (by omega) (Kv.inScan [] [])
          obtain ⟨all, hall⟩ : ∃ all, all = Kv.scan (playK 16777216 (ds ++ es) k).items [] [] := ⟨_, rfl⟩
          have HAL := hid hall
          rw [show Kv.rising (playK 16777216 (ds ++ es) k).items (Kv.inScan [] []) = all from hall.symm] at HND hl0
          rw [← hall] at HSC HKL
          obtain ⟨vs, hvs⟩ : ∃ vs, vs = (playK 16777216 (ds ++ es) k).version := ⟨_, rfl⟩
          have HVS := hid hvs
          rw [← hvs] at HV hv
          have hmm := @run_makeMap Tryz.prog
          have HB := hid hh
          have HOK := hid hpk.good.items.ok
          generalize hs0 : playK 16777216 (ds ++ es) k = s0 at *
          have HZ := hid (show playK 16777216 (ds ++ es) (k + 0) = s0 from hs0)
          obtain ⟨an, han⟩ : ∃ an, an = all.length := ⟨_, rfl⟩
          have HAN := hid han
          unfold sv at HSC
          clear hh hpk hall hvs hs0
          go_wp2_with (first
            | (go_at_call 13; refine (HV.out _ _ HB.out).mono ?_; rintro e w3 ⟨rfl, rfl⟩; clear HV)
            | (go_at_call 14; refine (HSC.out _ _ (HB.out.items_made).pull1).mono ?_; rintro e w4 ⟨va, rfl, g4⟩; obtain ⟨A5, c5, rfl, -, -⟩ := g4.its_form; rw [← HAN.out] at g4 ⊢; have GG := hid g4; clear g4 HSC HB))
          generalize w3.heap.size = bm at *
          go_loopw [55] (fun iv wr => ∃ j : Nat, j ≤ an ∧ iv = .int .i64 j ∧ Held w wr (rIts (.slice A5 an c5) all :: rKv sp p s0 :: rItems bm (all.take j).reverse :: [])) (fun iv _ => an - (intOf iv).toNat)
          case atStart => exact ⟨0, Nat.zero_le _, rfl, GG.out⟩
          case round =>
            clear GG
            obtain ⟨j, hj, rfl, hh⟩ := hrel
            by_cases hjl : j < an
            · have hlk : j < all.length := by rw [← HAN.out]; exact hjl
              obtain ⟨b1, off, hA, d0, d1, d2, d3⟩ := hh.its_rd.at hlk
              subst hA
              have HPN := hid (put_next HND.out hlk)
              have hkl := HKL.out j hlk
              generalize all[j] = x at *
              obtain ⟨key, gone, value, at_⟩ := x
              dsimp only at d0 d1 d2 d3 HPN hkl
              have g8 := hh.block 41 #[.string ⟨key.toArray⟩, .bool gone, .string ⟨value.toArray⟩, .int .i64 at_]
              have x0 := g8.blk0.cell (i := 0) rfl
              have x1 := g8.blk0.cell (i := 1) rfl
              have x2 := g8.blk0.cell (i := 2) rfl
              have x3 := g8.blk0.cell (i := 3) rfl
              obtain ⟨w9, hr9, g9⟩ := Held.items_put (A := [_, _, _]) g8 (n := key) (by omega) ⟨gone, value, at_⟩
              rw [HPN.out] at g9
              have G9 := hid g9.drop0
              unfold sv itemV sv at hr9
              dsimp only at hr9
              have hltn : (j : Int) < (an : Int) := by omega
              clear hh g8 g9 HPN
              go_wp2_with fail
              exact ⟨⟨j + 1, by omega, by congr 1, G9.out⟩, by show an - ((j : Int) + 1).toNat < an - (j : Int).toNat; omega⟩
            · have hltn : ¬ ((j : Int) < (an : Int)) := by omega
              have hjn : j = an := by omega
              subst hjn
              rw [List.take_of_length_le (by rw [← HAN.out]; exact Nat.le_refl _)] at hh
              have GA := hid (show Held w wr (rItems bm all :: rKv sp p s0 :: []) from (hh.drop0.pull1).items_perm (A := []) all.reverse_perm)
              clear hh
              go_wp2_with fail
              clear HKL HND han HAN hjl hl0 hmm
              go_loopw [66] (fun iv wr => ∃ j : Nat, j ≤ m ∧ iv = .int .i64 j ∧ Held w wr (rKv sp p (playK 16777216 (ds ++ es) (k + j)) :: rItems bm all :: [])) (fun iv _ => m - (intOf iv).toNat)
              case atStart =>
                refine ⟨0, Nat.zero_le _, rfl, ?_⟩
                rw [HZ.out]
                exact GA.out.pull1
              case round =>
                clear GA HZ
                obtain ⟨j, hj, rfl, hh⟩ := hrel
                by_cases hjm : j < m
                · have hlk : j < es.length := by rw [← HM.out]; exact hjm
                  obtain ⟨b1, off, q, hA, -, c0, c1, c2, c3, hops⟩ := HE.out.at hlk
                  subst hA
                  have hmod := hh.mod
                  have d0 := hmod.cell c0 (fun h => h)
                  have d1 := hmod.cell c1 (fun h => h)
                  have d2 := hmod.cell c2 (fun h => h)
                  have d3 := hmod.cell c3 (fun h => h)
                  obtain ⟨O, oc, rfl, ho1, ho2⟩ := hops.form
                  have hpk := playK_ok2 (m := 16777216) (by decide) (ds ++ es) (k := k + j) (by omega)
                  have HSU := hid (playK_right (m := 16777216) HN.out hlk)
                  generalize playK 16777216 (ds ++ es) (k + j) = s at *
                  generalize es[j] = dd at *
                  have hnx := hpk.next
                  have HC := hid (kcommit_held HNM.out (hh.block 32 #[.int .i64 dd.op, .slice O dd.ops.length oc, .slice dd.kA dd.kn dd.kc, .int .i64 dd.tear]).pull1 hpk.good (by omega) (by omega) _ dd.ops (hops.opsR _))
                  generalize dd.ops.length = ol at *
                  have hltm : (j : Int) < (m : Int) := by omega
                  clear hh hmod c0 c1 c2 c3 hops hpk hnx
                  go_wp2_with (first
                    | (go_at_call 12; refine HC.out.mono ?_; rintro e w3 ⟨rfl, g3⟩; have G3 := hid g3.pull1.drop0; clear g3))
                  refine ⟨⟨j + 1, by omega, by congr 1, ?_⟩, by show m - ((j : Int) + 1).toNat < m - (j : Int).toNat; omega⟩
                  rw [HSU.out]
                  exact G3.out
                · have hltm : ¬ ((j : Int) < (m : Int)) := by omega
                  have hjm' : j = m := by omega
                  subst hjm'
                  have hpk := playK_ok2 (m := 16777216) (by decide) (ds ++ es) (k := k + j) (by omega)
                  obtain ⟨hnw, hvv⟩ := HNEWS.out j (Nat.le_refl _)
                  have hnx := hpk.next
                  have hv2 := hpk.ver
                  have hl3 := items_few hpk (by omega) (Kv.inScan [] [])
                  have hl4 := items_few hpk (by omega) (sinceF (s0.version : Int))
                  rw [← since_eq] at hl4
                  generalize playK 16777216 (ds ++ es) (k + j) = s at *
                  have HV := hid (fun w1 B1 (g1 : Held w w1 (rKv sp p s :: B1)) => kversion_held g1)
                  have HSI := hid (fun w1 B1 (g1 : Held w w1 (rKv sp p s :: B1)) => ksince_held g1 hpk.good.items (by omega) (s0.version : Int))
                  have HSC := hid (fun w1 B1 (g1 : Held w w1 (rKv sp p s :: B1)) => kscan_held g1 hpk.good.items (by omega) [] [])
                  have HEA := hid (fun i (hi : i < (Kv.since s.items (s0.version : Int)).length) => since_each hpk.good.items s0.version hi)
                  have HSE := hid (fun i (hi : i < (Kv.scan s.items [] []).length) => scan_each (d := s0.items) hpk.good.items hnw hi)
                  have HLN := hid (Kv.news_length HOK.out hpk.good.items.ok hnw)
                  have hl3' : (Kv.scan s.items [] []).length ≤ 60000 := hl3
                  clear hl3 hnw HNEWS
                  obtain ⟨sn, hsn⟩ : ∃ sn, sn = Kv.since s.items (s0.version : Int) := ⟨_, rfl⟩
                  obtain ⟨now, hnow⟩ : ∃ now, now = Kv.scan s.items [] [] := ⟨_, rfl⟩
                  rw [← hsn] at HSI HEA HSE HLN hl4
                  rw [← hnow] at HSC HSE HLN hl3'
                  rw [← HAL.out] at HSE HLN
                  rw [← HVS.out] at HSI HEA hvv
                  obtain ⟨us, hus⟩ : ∃ us, us = s.version := ⟨_, rfl⟩
                  rw [← hus] at HV HEA hv2
                  obtain ⟨ln, hln⟩ : ∃ ln, ln = sn.length := ⟨_, rfl⟩
                  have HL := hid hln
                  have GB := hid hh
                  clear hh hpk hsn hnow hus hln hnx HAL HVS HOK HN HM HD HE HNM
                  unfold sv at HSC
                  go_wp2_with (first
                    | (go_at_call 15; refine (HSI.out _ _ GB.out).mono ?_; rintro e w5 ⟨va, rfl, g5⟩; obtain ⟨A6, c6, rfl, -, -⟩ := g5.its_form; rw [← HL.out] at g5 ⊢; have GG := hid g5; clear g5 HSI GB))
                  go_loopw [16, 79] (fun lv iv wr => ∃ i : Nat, i ≤ ln ∧ iv = .int .i64 i ∧ lv = sv (lastK sn i) ∧ Held w wr (rIts (.slice A6 ln c6) sn :: rKv sp p s :: rItems bm (Kv.over all (sn.take i)) :: [])) (fun _ iv _ => ln - (intOf iv).toNat)
                  case atStart => exact ⟨0, Nat.zero_le _, rfl, rfl, GG.out⟩
                  case round =>
                    clear GG
                    obtain ⟨i, hi, rfl, rfl, hh⟩ := hrel
                    by_cases hil : i < ln
                    · have hlk : i < sn.length := by rw [← HL.out]; exact hil
                      obtain ⟨b1, off, hA, d0, d1, d2, d3⟩ := hh.its_rd.at hlk
                      subst hA
                      have HPN := hid (over_next all hlk)
                      have HLS := hid (lastK_succ hlk)
                      obtain ⟨hk1, hk2, hk3, hk4⟩ := HEA.out i hlk
                      have hlq := not_leq hk4
                      generalize lastK sn i = lk at *
                      generalize sn[i] = x at *
                      obtain ⟨key, gone, value, at_⟩ := x
                      dsimp only at d0 d1 d2 d3 HPN HLS hk1 hk2 hk3 hk4 hlq
                      have g8 := hh.block 41 #[.string ⟨key.toArray⟩, .bool gone, .string ⟨value.toArray⟩, .int .i64 at_]
                      have x0 := g8.blk0.cell (i := 0) rfl
                      have x1 := g8.blk0.cell (i := 1) rfl
                      have x2 := g8.blk0.cell (i := 2) rfl
                      have x3 := g8.blk0.cell (i := 3) rfl
                      have G8 := hid g8
                      have k0 : decide ((at_ : Int) ≤ (vs : Int)) = false := decide_eq_false (by omega)
                      have k1 : decide ((us : Int) < (at_ : Int)) = false := decide_eq_false (by omega)
                      have CV := hid (fun q => HV.out _ _ (g8.drewN q).pull2)
                      have hlti : (i : Int) < (ln : Int) := by omega
                      clear hh g8 hk4
                      unfold sv
                      go_wp2_with fail
                      go_quiet (first | (go_at_call 13; exact Calls.quiet_of_same (CV.out _)))
                      go_upto_region 30 with (fail)
                      obtain ⟨w9, hr9, g9⟩ := Held.items_put (A := [_, _, _]) (G8.out.drewN nq) (n := key) (by omega) ⟨gone, value, at_⟩
                      unfold sv itemV sv at hr9
                      dsimp only at hr9
                      have y0 := g9.blk0.cell (i := 0) rfl
                      have y1 := g9.blk0.cell (i := 1) rfl
                      have y2 := g9.blk0.cell (i := 2) rfl
                      have y3 := g9.blk0.cell (i := 3) rfl
                      have HDL := hid (Held.items_del (A := [_, _, _]) g9 (n := key) (by omega))
                      unfold sv at HDL
                      have G9 := hid g9
                      clear g9 CV
                      cases gone with
                      | true =>
                        go_wp2_with (at_delete; refine wpList_delete_ex _ rfl _ _ 37 9 rfl _ _ rfl rfl _ HDL.out ?c2)
                        case c2 =>
                          intro w10 g10
                          have G10 := hid g10
                          clear g10
                          go_wp2_with fail
                          refine ⟨⟨i + 1, by omega, by congr 1, by rw [HLS.out], ?_⟩, by show ln - ((i : Int) + 1).toNat < ln - (i : Int).toNat; omega⟩
                          have g11 := G10.out.drop0
                          rw [HPN.out]
                          exact g11
                      | false =>
                        go_wp2_with fail
                        refine ⟨⟨i + 1, by omega, by congr 1, by rw [HLS.out], ?_⟩, by show ln - ((i : Int) + 1).toNat < ln - (i : Int).toNat; omega⟩
                        have g11 := G9.out.drop0
                        rw [HPN.out]
                        exact g11
                    · have hlti : ¬ ((i : Int) < (ln : Int)) := by omega
                      have hin : i = ln := by omega
                      subst hin
                      rw [List.take_of_length_le (by rw [← HL.out]; exact Nat.le_refl _)] at hh
                      have GC := hid hh.drop0
                      obtain ⟨nn, hnn⟩ : ∃ nn, nn = now.length := ⟨_, rfl⟩
                      have HNN := hid hnn
                      rw [← hnn] at HLN
                      clear hh hnn
                      go_wp2_with (first
                        | (go_at_call 14; refine (HSC.out _ _ GC.out).mono ?_; rintro e w6 ⟨va, rfl, g6⟩; obtain ⟨A7, c7, rfl, -, -⟩ := g6.its_form; have len1 := (Held.items_at (A := [_, _]) g6).run_len (t := 37) Tryz.underlying37; rw [show (itemsL (Kv.over all sn)).length = nn by unfold itemsL; rw [List.length_map]; exact HLN.out] at len1; rw [← HNN.out] at g6 ⊢; have GD := hid g6; clear g6 HSC GC))
                      go_loopw [121] (fun iv wr => ∃ i : Nat, i ≤ nn ∧ iv = .int .i64 i ∧ Held w wr (rIts (.slice A7 nn c7) now :: rKv sp p s :: rItems bm (Kv.over all sn) :: [])) (fun iv _ => nn - (intOf iv).toNat)
                      case atStart => exact ⟨0, Nat.zero_le _, rfl, GD.out⟩
                      case round =>
                        clear GD
                        obtain ⟨j2, hj2, rfl, hh⟩ := hrel
                        by_cases hjn2 : j2 < nn
                        · have hlk : j2 < now.length := by rw [← HNN.out]; exact hjn2
                          obtain ⟨b1, off, hA, d0, d1, d2, d3⟩ := hh.its_rd.at hlk
                          subst hA
                          obtain ⟨hk1, hse⟩ := HSE.out j2 hlk
                          generalize now[j2] = x at *
                          obtain ⟨key, gone, value, at_⟩ := x
                          dsimp only at d0 d1 d2 d3 hk1 hse
                          have g8 := hh.block 41 #[.string ⟨key.toArray⟩, .bool gone, .string ⟨value.toArray⟩, .int .i64 at_]
                          have x0 := g8.blk0.cell (i := 0) rfl
                          have x1 := g8.blk0.cell (i := 1) rfl
                          have x2 := g8.blk0.cell (i := 2) rfl
                          have x3 := g8.blk0.cell (i := 3) rfl
                          have l1 := Held.items_lookup (A := [_, _, _]) g8 (n := key) (by omega)
                          rw [hse] at l1
                          unfold lookV itemV sv at l1
                          dsimp only at l1
                          have G8 := hid g8
                          have hlti : (j2 : Int) < (nn : Int) := by omega
                          clear hh g8 hse
                          go_wp2_with fail
                          exact ⟨⟨j2 + 1, by omega, by congr 1, G8.out.drop0⟩, by show nn - ((j2 : Int) + 1).toNat < nn - (j2 : Int).toNat; omega⟩
                        · have hlti : ¬ ((j2 : Int) < (nn : Int)) := by omega
                          have GE := hid hh
                          clear hh
                          go_wp2_with (first | (go_at_call 10; refine (kawake_any _).mono ?_; rintro e w9 ⟨rfl, m9⟩; have HE9 := hid (GE.out.step m9); clear m9))
                          go_ret
                          exact ⟨rfl, HE9.out.below⟩
end Go.Proofs.YtdbhccehbjhbpaaGreatDoor

/- the powers of ten lie as the program's text lays them, where a row's list says so. -/
namespace Go.Proofs.YtdbhccehbjhbpaaGreatDoor
open Go.RowKit

theorem tab_of_laid {W : World} (h : laidMetH Tryz.prog Rows.kvstoreNewsRow.laid W) : Lib.TabIs Tryz.prog W "internal/strconv.uint64pow10" .u64 Lib.pow10Tab := by
  have h1 := h.filter (fun x => x.1 == "internal/strconv.uint64pow10")
  have h2 : laidMetH Tryz.prog [("internal/strconv.uint64pow10", Lib.tabData .u64 Lib.pow10Tab)] W := h1
  have h3 : laidMet Tryz.prog [("internal/strconv.uint64pow10", Lib.tabData .u64 Lib.pow10Tab)] W := h2
  exact Lib.tabIs_of_head pow_named (by kernel_rfl) Tryz.underlying292 Tryz.underlying126 (by kernel_rfl) (by kernel_rfl) h3
end Go.Proofs.YtdbhccehbjhbpaaGreatDoor

/- KvstoreNews: the walk over the arguments as they come in. -/
namespace Go.Proofs.YtdbhccehbjhbpaaGreatDoor
open Go.ChangeShapes Go.WideShapes Go.ChangeAt Go.RowKit
set_option maxRecDepth 100000 in
theorem news_row {H : Type} {enc : TypeId × Value → H} (W : World) (base : Nat) (v0 v1 : Value) {d0 d1 : DataW H} {p0 p1 : List MemPlace} (htab : Lib.TabIs Tryz.prog W "internal/strconv.uint64pow10" .u64 Lib.pow10Tab)
    (ok0 : Value.okWide Tryz.prog W .any base 22 v0) (h0 : DataW.Trod enc Tryz.prog W 0 (fun _ => true) true 22 v0 d0 p0)
    (ok1 : Value.okWide Tryz.prog W .any base 22 v1) (h1 : DataW.Trod enc Tryz.prog W 0 (fun _ => true) true 22 v1 d1 p1) :
    Calls Tryz.prog 3 #[v0, v1] W fun e w' => e = .returned (.bool true) ∧ Below W.heap.size W w' := by
  obtain ⟨x0, hx0⟩ := open_dos ok0 h0
  obtain ⟨x1, hx1⟩ := open_dos ok1 h1
  exact news_walk W htab v0 x0 hx0 v1 x1 hx1
end Go.Proofs.YtdbhccehbjhbpaaGreatDoor
