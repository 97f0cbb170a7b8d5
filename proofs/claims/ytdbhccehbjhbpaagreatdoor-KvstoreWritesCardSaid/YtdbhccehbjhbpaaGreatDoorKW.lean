/- kvstore: a law. (Several texts in one file, by mz.py.) -/
import Derived.Test.YtdbhccehbjhbpaaGreatDoorK19
import Derived.SizedLaws

/- kvstore's laws: what the commits of a list of calls make. -/
namespace Go.Proofs.YtdbhccehbjhbpaaGreatDoor
open Go.RowKit
open Disk (Dk Dict)
open Slog (Seg recsOf Lg)
open Kv (It KOp Items)

theorem rising_len (d : Items) (f : List UInt8 → It → Bool) : (Kv.rising d f).length ≤ d.length := by
  have := (Kv.pick_keys d f ((d.map (·.1)).mergeSort Disk.leB)).length_le
  rw [List.length_map, List.length_mergeSort, List.length_map] at this
  exact this
/-- the store behind the first k calls' commits. -/
def playK (m : Nat) (ds : List KDo) (k : Nat) : Kv.St := (kst m).play ((ds.take k).map (·.ops))
structure PlayOk (s : Kv.St) (k : Nat) : Prop where
  good : Kv.Good s
  next : s.lg.next ≤ k + 1
theorem PlayOk.ver {s : Kv.St} {k : Nat} (h : PlayOk s k) : s.version ≤ k := by have := h.good.next; have := h.next; omega
theorem playK_ok {m : Nat} (hm : m ≤ 16777216) (ds : List KDo) {k : Nat} (hk : k ≤ 60) : PlayOk (playK m ds k) k := by
  have hl : ((ds.take k).map (·.ops)).length ≤ k := by rw [List.length_map, List.length_take]; omega
  obtain ⟨h1, h2⟩ := (kst_good hm).play ((ds.take k).map (·.ops)) (by show 1 + _ ≤ 246; omega)
  refine ⟨h1, ?_⟩
  have h3 : ((kst m).play ((ds.take k).map (·.ops))).lg.next ≤ 1 + _ := h2
  show ((kst m).play ((ds.take k).map (·.ops))).lg.next ≤ k + 1
  omega
theorem playK_succ {m : Nat} {ds : List KDo} {k : Nat} (hk : k < ds.length) : playK m ds (k + 1) = ((playK m ds k).commit ds[k].ops).1 := by
  unfold playK
  rw [List.take_succ_eq_append_getElem hk, List.map_append, List.map_cons, List.map_nil, Kv.St.play_snoc]
theorem playK_all (m : Nat) (ds : List KDo) {k : Nat} (hk : ds.length ≤ k) : playK m ds k = playK m ds ds.length := by
  unfold playK
  rw [List.take_of_length_le hk, List.take_length]
theorem items_few {s : Kv.St} {k : Nat} (h : PlayOk s k) (hk : k ≤ 200) (f : List UInt8 → It → Bool) : (Kv.rising s.items f).length ≤ 60000 := by
  have := rising_len s.items f
  have := h.good.items.many
  have := h.ver
  omega

theorem le_of_gtr {a b : List UInt8} (x : (!Op.bytesLess a b && !(a == b)) = false) : a ≤ b := by
  intro h
  rw [bytesLess_eq] at x
  simp at x
  by_cases hlt : a < b
  · exact List.lt_irrefl _ (List.lt_trans hlt h)
  · exact List.lt_irrefl b (by rw [x hlt] at h; exact h)

end Go.Proofs.YtdbhccehbjhbpaaGreatDoor

/- kvstore's laws: how long an argument may be; one call ahead of others (KvstoreWrites). -/
namespace Go.Proofs.YtdbhccehbjhbpaaGreatDoor
open Go.ChangeShapes Go.WideShapes Go.ChangeAt Go.RowKit
open Kv (KOp)

theorem reach_len {H : Type} {enc : TypeId × Value → H} {P : Program} {W : World} {t e : TypeId} {d : DataW H} {p : List MemPlace} {A : Option Addr} {n c : Nat} (ht : P.underlying t = some (.slice e))
    (h : DataW.Trod enc P W 0 (fun _ => true) true t (.slice A n c) d p) {ts : List TypeId} {ds : List (DataW H)} (hw : (DataW.weightsEach P ts ds).all (· ≤ reachBytes) = true) {j : Nat} (hj : ts[j]? = some t) (hd : ds[j]? = some d) : n * P.bytesOf e ≤ 140737488351232 := by
  obtain ⟨fuel, hf⟩ := h
  rcases Go.Deep.open_slice ht hf with ⟨hcs, -⟩ | ⟨a, len, cap, m, nn, D, Pl, hcs, -, hl, -, -, hx, -⟩
  · simp [Value.cells] at hcs
    simp [hcs]
  · simp [Value.cells] at hcs
    obtain ⟨rfl, h2, rfl⟩ := hcs
    injection hx with h3 _
    subst h3
    have := sized_slice hw hj hd ht
    simp only [List.length_map, List.length_range] at this
    have h4 : reachBytes = 140737488351232 := by decide
    rw [h4] at this
    rw [h2]
    refine Nat.le_trans (Nat.mul_le_mul_right _ (Nat.le_add_right len _)) this
/-- a call that holds ops alone. -/
def opsDo (ops : List KOp) : KDo := ⟨0, ops, none, 0, 0, 0⟩
/-- one call ahead of others. -/
theorem Dos.cons {w0 w : World} {B : List Res} {u q : Value} {ds : List KDo} {qs : List Value} {ops : List KOp} (h : Held w0 w (rRows 4 32 u (doRow (opsDo ops) q :: List.zipWith doRow ds qs) :: B)) (hl : qs.length = ds.length)
    (hq : KOps (· < w0.heap.size) w0 q ops) (hd : ∀ (i : Nat) (d : KDo) (q : Value), ds[i]? = some d → qs[i]? = some q → KOps (· < w0.heap.size) w0 q d.ops) : Dos (fun _ => True) (· < w0.heap.size) w u (opsDo ops :: ds) := by
  have hm := h.mod
  have keep : ∀ (x : Value) (o : List KOp), KOps (· < w0.heap.size) w0 x o → KOps (· < w0.heap.size) w x o := fun x o hx => hx.keep fun b hb _ => hm.block b hb (fun h => h)
  refine ⟨q :: qs, by simp [hl], Held.rows_rd h, fun i d x h1 h2 => ?_⟩
  cases i with
  | zero => simp at h1 h2; subst h1 h2; exact keep _ _ hq
  | succ i => exact keep _ _ (hd i d x (by simpa using h1) (by simpa using h2))
theorem Tryz.infoDo : (Tryz.prog.info? 32).map (fun i => (i.zero, i.size, i.bytes)) = some (some (.agg #[.int .i64 0, .slice none 0 0, .slice none 0 0, .int .i64 0]), 4, 64) := by kernel_rfl
theorem bytesDo : Tryz.prog.bytesOf 32 = 64 := by kernel_rfl
/-- what Get hands back, with its parts named. -/
theorem getV_form (k : List UInt8) (o : Option Kv.It) : ∃ (k' v' : ByteArray) (g' b' : Bool) (a' : Int), getV k o = .tuple #[.agg #[.string k', .bool g', .string v', .int .i64 a'], .bool b'] := by
  cases o with
  | none => exact ⟨_, _, _, _, _, rfl⟩
  | some x => exact ⟨_, _, _, _, _, rfl⟩
end Go.Proofs.YtdbhccehbjhbpaaGreatDoor

/- kvstore's laws: KvstoreWrites. (Printed by gen_K23.py.) -/
namespace Go.Proofs.YtdbhccehbjhbpaaGreatDoor
open Go.RowKit
open Disk (Dk Dict)
open Slog (Seg recsOf Lg)
open Kv (It KOp Items)

set_option maxRecDepth 100000 in
set_option maxHeartbeats 4000000 in
theorem writes_walk (w : World) (v : Value) (ds : List KDo) (hd : Dos (· < w.heap.size) (· < w.heap.size) w v ds) (h64 : ds.length * 64 ≤ 140737488351232) (u : Value) (ops : List KOp) (ho : KOps (· < w.heap.size) w u ops) (key : List UInt8) (hkey : key.length ≤ 9223372036854775807) :
    Calls Tryz.prog 5 #[v, u, sv key] w fun e w' => e = .returned (.bool true) ∧ Below w.heap.size w w' := by
  obtain ⟨A, cc, rfl, hc, hm⟩ := hd.form
  obtain ⟨O, oc, rfl, ho1, ho2⟩ := ho.form
  have HD := hid hd
  have HO := hid ho
  obtain ⟨qs, hql, hrd, hqs⟩ := id hd
  have h0 : Held w (w.alloc (.cells #[.int .i64 0, .slice O ops.length oc, .slice none 0 0, .int .i64 0] 32)) (rRows 4 32 (.slice (some ⟨w.heap.size, 0, none⟩) 1 1) [doRow (opsDo ops) (.slice O ops.length oc)] :: []) :=
    (Held.begin w).more (F := [w.heap.size]) ⟨(fun r hr => by rw [List.mem_singleton] at hr; rw [hr]; rfl), ⟨by rfl, .inr ⟨w.heap.size, 1, _, rfl, Nat.zero_le _, heap_alloc_new w _, Nat.le_refl _, by simp [maxLen], by rfl, by rfl⟩⟩, rfl⟩ (upd_built w _)
  have H0 := hid h0
  have HR := hid (And.intro hql (And.intro hrd hqs))
  have HRL := hid (show (List.zipWith doRow ds qs).length = ds.length by simp [hql])
  obtain ⟨iD, ii, iz, is, ib⟩ := info_parts Tryz.infoDo
  have HI := hid (And.intro ii (And.intro iz (And.intro is ib)))
  obtain ⟨n, hn⟩ : ∃ n, n = ds.length := ⟨_, rfl⟩
  have HN := hid hn
  rw [← hn] at hc h64 HRL ⊢
  obtain ⟨m, hm'⟩ : ∃ m, m = ops.length := ⟨_, rfl⟩
  have HM := hid hm'
  rw [← hm'] at ho1 H0 HO ⊢
  clear hn hm' hd ho hql hrd hqs h0 ii iz is ib
  unfold sv
  go_enter Tryz.func5, Tryz.ntmps5
  go_wp2_with (at_builtin; refine wpList_rows_held [] _ rfl _ _ 22 rfl 4 32 iD _ 64 Tryz.underlying22 HI.out.1 HI.out.2.1 HI.out.2.2.1 HI.out.2.2.2 rfl (by decide) _ _ rfl H0.out (.slice A n cc) (· < w.heap.size) (List.zipWith doRow ds qs) rfl ?c0 ?c1 ?c2 ?c3 ?c4)
  case c0 =>
    have := HR.out.2.1
    rw [← HN.out] at this
    exact this.keep fun b hb _ => Below.heap_alloc _ _ b hb
  case c1 =>
    intro r hr y hy
    obtain ⟨i, hi⟩ := List.mem_iff_getElem?.1 hr
    rw [List.getElem?_zipWith] at hi
    cases h1 : ds[i]? with
    | none => rw [h1] at hi; cases hi
    | some d =>
      cases h2 : qs[i]? with
      | none => rw [h1, h2] at hi; cases hi
      | some q =>
        rw [h1, h2] at hi
        have e : doRow d q = r := by simpa using hi
        obtain ⟨O', c', rfl, -, -⟩ := (HR.out.2.2 i d q h1 h2).form
        rw [← e] at hy
        unfold doRow at hy
        simp only [List.mem_cons, List.not_mem_nil, or_false] at hy
        rcases hy with rfl | rfl | rfl | rfl <;> rfl
  case c2 => have := HN.out; have := HR.out.1; omega
  case c3 => have := HN.out; have := HR.out.1; unfold maxLen; omega
  case c4 =>
  intro v1 w1 g1
  have hdos := Dos.cons (ops := ops) g1 HR.out.1 HO.out HR.out.2.2
  have HS := hid (short_any w1 v1 _ hdos)
  have G1 := hid g1.drop0
  clear g1 hdos H0 HR HRL
  go_wp2_with fail
  refine HS.out.mono ?_
  rintro e w2 ⟨r, rfl, hr, m1⟩
  have G0 := hid (G1.out.step m1)
  clear m1 G1 HS
  cases r with
  | false =>
    go_wp2_with (first | (go_at_call 10; refine (kawake_any _).mono ?_; rintro e w9 ⟨rfl, m9⟩; have HE := hid (G0.out.step m9); clear m9))
    go_ret
    exact ⟨rfl, HE.out.below⟩
  | true =>
    have hl := (hr rfl).1
    rw [List.length_cons, ← HN.out] at hl
    clear hr
    go_wp2_with (first
      | (go_at_call 11; refine (kbegun_held G0.out 16777216 (by decide)).mono ?_; rintro e w3 ⟨p, sp, rfl, g2⟩; have G2 := hid g2; clear g2))
    go_loopw [42] (fun iv wr => ∃ k : Nat, k ≤ n ∧ iv = .int .i64 k ∧ Held w wr (rKv sp p (playK 16777216 ds k) :: [])) (fun iv _ => n - (intOf iv).toNat)
    case atStart => exact ⟨0, Nat.zero_le _, rfl, G2.out⟩
    case round =>
      clear G2 G0
      obtain ⟨k, hk, rfl, hh⟩ := hrel
      by_cases hlt : k < n
      · have hlk : k < ds.length := by rw [← HN.out]; exact hlt
        obtain ⟨b1, off, q, hA, -, c0, c1, c2, c3, hops⟩ := HD.out.at hlk
        subst hA
        have hmod := hh.mod
        have d0 := hmod.cell c0 (fun h => h)
        have d1 := hmod.cell c1 (fun h => h)
        have d2 := hmod.cell c2 (fun h => h)
        have d3 := hmod.cell c3 (fun h => h)
        obtain ⟨O, oc, rfl, ho1, ho2⟩ := hops.form
        have hpk := playK_ok (m := 16777216) (by decide) ds (k := k) (by omega)
        have HSU := hid (playK_succ (m := 16777216) hlk)
        generalize playK 16777216 ds k = s at *
        generalize ds[k] = dd at *
        have hnx := hpk.next
        have HC := hid (kcommit_held (nameOk_100 w) (hh.block 32 #[.int .i64 dd.op, .slice O dd.ops.length oc, .slice dd.kA dd.kn dd.kc, .int .i64 dd.tear]).pull1 hpk.good (by omega) (by omega) _ dd.ops (hops.opsR _))
        generalize dd.ops.length = ol at *
        have hltn : (k : Int) < (n : Int) := by omega
        clear hh hmod c0 c1 c2 c3 hops hpk hnx
        go_wp2_with (first
          | (go_at_call 12; refine HC.out.mono ?_; rintro e w3 ⟨rfl, g3⟩; have G3 := hid g3.pull1.drop0; clear g3))
        refine ⟨⟨k + 1, by omega, by congr 1, ?_⟩, by show n - ((k : Int) + 1).toNat < n - (k : Int).toNat; omega⟩
        rw [HSU.out]
        exact G3.out
      · have hltn : ¬ ((k : Int) < (n : Int)) := by omega
        have hkn : k = n := by omega
        subst hkn
        have hpk := playK_ok (m := 16777216) (by decide) ds (k := k) (by omega)
        generalize playK 16777216 ds k = s at *
        have hv := hpk.ver
        have hnx := hpk.next
        have hl0 := items_few hpk (by omega) (sinceF 0)
        have HV := hid (fun w1 B1 (g1 : Held w w1 (rKv sp p s :: B1)) => kversion_held g1)
        have HB := hid (fun w1 B1 (g1 : Held w w1 (rKv sp p s :: B1)) => kbytes_held g1)
        have HSI := hid (fun w1 B1 (g1 : Held w w1 (rKv sp p s :: B1)) => ksince_held g1 hpk.good.items (by omega) 0)
        have HG := hid (fun w1 B1 (g1 : Held w w1 (rKv sp p s :: B1)) => kget_held g1 hpk.good.items hkey)
        have HC := hid (fun w1 B1 (g1 : Held w w1 (rKv sp p s :: B1)) => kcommit_held (nameOk_100 w) g1 hpk.good (by omega) (by omega) _ ops (HO.out.opsR B1))
        have hgc := hpk.good.commit (by omega) ops
        obtain ⟨kx, vx, gx, bx, ax, hget⟩ := getV_form key (Kv.get s.items key)
        rw [hget] at HG
        obtain ⟨all, hall⟩ : ∃ all, all = Kv.since s.items 0 := ⟨_, rfl⟩
        rw [← since_eq, ← hall] at hl0
        rw [← hall] at HSI
        obtain ⟨bs, hbs⟩ : ∃ bs, bs = bytesSum s.lg.segs := ⟨_, rfl⟩
        rw [← hbs] at HB
        unfold sv at HG
        have GG := hid hh
        clear hh
        by_cases he : (s.commit ops).2.2 = 0
        · obtain ⟨hck, hr1, hr2, hr3⟩ := Kv.St.done he
          obtain ⟨-, -, hok⟩ := Kv.check_zero hck
          have hit2 := hgc.1.items
          have HG2 := hid (fun w1 B1 (k' : List UInt8) (hk' : k'.length ≤ 9223372036854775807) (g1 : Held w w1 (rKv sp p (s.commit ops).1 :: B1)) => kget_held g1 hit2 hk')
          have HV2 := hid (fun w1 B1 (g1 : Held w w1 (rKv sp p (s.commit ops).1 :: B1)) => kversion_held g1)
          rw [hr2] at HV2
          rw [hr3] at HG2
          rw [he, hr1] at HC
          have hin := fun o (ho : o ∈ ops) => Kv.get_in (d := s.items) (v := s.version + 1) hok.once ho
          have hout := Kv.get_other (d := s.items) (v := s.version + 1) (ops := ops) (k := key)
          have hkl := fun o (ho : o ∈ ops) => (HO.out.2 o ho).1
          generalize (s.commit ops).1 = s2 at *
          generalize Kv.putAll s.items (s.version + 1) ops = it2 at *
          obtain ⟨vs, hvs⟩ : ∃ vs, vs = s.version := ⟨_, rfl⟩
          rw [← hvs] at HV HV2 HC hin hv
          rw [show ((vs + 1 : Nat) : Int) = (vs : Int) + 1 by omega] at HV2 HC
          have HIN := hid hin
          have HOUT := hid hout
          have HGET := hid hget
          have HKL := hid hkl
          clear hck hr1 hr2 hr3 hok hit2 hgc hin hout hget hkl he hall hbs hvs hpk hnx
          go_wp2_with (first
            | (go_at_call 13; refine (HV.out _ _ GG.out).mono ?_; rintro e w3 ⟨rfl, rfl⟩; clear HV)
            | (go_at_call 24; refine (HB.out _ _ GG.out).mono ?_; rintro e w4 ⟨rfl, g4⟩; replace GG := hid g4; clear g4 HB)
            | (go_at_call 15; refine (HSI.out _ _ GG.out).mono ?_; rintro e w5 ⟨va, rfl, g5⟩; obtain ⟨A5, c5, rfl, -, -⟩ := g5.its_form; replace GG := hid g5.pull1; clear g5 HSI)
            | (go_at_call 19; refine (HG.out _ _ GG.out).mono ?_; rintro e w6 ⟨rfl, g6⟩; replace GG := hid ((g6.block 41 #[.string kx, .bool gx, .string vx, .int .i64 ax]).pull1); clear g6 HG)
            | (go_at_call 12; refine (HC.out _ _ GG.out).mono ?_; rintro e w7 ⟨rfl, g7⟩; replace GG := hid g7; clear g7 HC)
            | (go_at_call 13; refine (HV2.out _ _ GG.out).mono ?_; rintro e w8 ⟨rfl, rfl⟩; clear HV2))
          generalize w6.heap.size = xb at *
          go_loopw [106] (fun iv wr => ∃ j : Nat, j ≤ m ∧ iv = .int .i64 j ∧ (∀ i (h : i < ops.length), i < j → ops[i].key ≠ key) ∧ Held w wr (rKv sp p s2 :: rBlk xb 41 #[.string kx, .bool gx, .string vx, .int .i64 ax] :: rIts (.slice A5 all.length c5) all :: [])) (fun iv _ => m - (intOf iv).toNat)
          case atStart => exact ⟨0, Nat.zero_le _, rfl, fun i _ h => absurd h (by omega), GG.out⟩
          case round =>
            clear GG
            obtain ⟨j, hj, rfl, hnk, hh⟩ := hrel
            have HNK := hid hnk
            clear hnk
            by_cases hjl : j < m
            · have hlo : j < ops.length := by rw [← HM.out]; exact hjl
              obtain ⟨b1, off, c', hv1, o0, o1, o2⟩ := ((HO.out.ops []) wr [_, _, _] (by simpa using hh)).op hlo
              injection hv1 with e1 e2 e3
              subst e1
              clear e2 e3
              have hget1 := HIN.out _ (List.getElem_mem hlo)
              have hkl1 := HKL.out _ (List.getElem_mem hlo)
              have HNX := hid (show ops[j].key ≠ key → ∀ i (h : i < ops.length), i < j + 1 → ops[i].key ≠ key from fun hne i h hi => by
                rcases Nat.lt_or_ge i j with h1 | h1
                · exact HNK.out i h h1
                · have : i = j := by omega
                  subst this
                  exact hne)
              generalize ops[j] = o at *
              obtain ⟨okey, gone, value⟩ := o
              unfold sv at o0 o2
              dsimp only at o0 o1 o2 hget1 hkl1 HNX
              have HB1 := hid ((hh.block 55 #[.string ⟨okey.toArray⟩, .bool gone, .string ⟨value.toArray⟩]).pull1)
              have HG3 := hid (fun w1 B1 (g1 : Held w w1 (rKv sp p s2 :: B1)) => HG2.out w1 B1 okey hkl1 g1)
              rw [hget1] at HG3
              unfold KOp.it at HG3
              have hltn : (j : Int) < (m : Int) := by omega
              clear hh hget1 hkl1
              cases gone with
              | true =>
                rw [if_pos rfl] at HG3
                unfold getV zeroItem sv at HG3
                dsimp only at HG3
                by_cases hkk : okey = key
                · subst hkk
                  go_wp2_with (first
                    | (go_at_call 19; refine (HG3.out _ _ HB1.out).mono ?_; rintro e w8 ⟨rfl, g8⟩; have y0 := cell_alloc _ (.cells #[.string ⟨#[]⟩, .bool false, .string ⟨#[]⟩, .int .i64 0] 41) _ _ (g8.pull1.blk0.cell (i := 0) rfl); have y1 := cell_alloc _ (.cells #[.string ⟨#[]⟩, .bool false, .string ⟨#[]⟩, .int .i64 0] 41) _ _ (g8.pull1.blk0.cell (i := 1) rfl); have y2 := cell_alloc _ (.cells #[.string ⟨#[]⟩, .bool false, .string ⟨#[]⟩, .int .i64 0] 41) _ _ (g8.pull1.blk0.cell (i := 2) rfl); have G8 := hid (g8.alloc (.cells #[.string ⟨#[]⟩, .bool false, .string ⟨#[]⟩, .int .i64 0] 41)); clear g8)
                    | (go_at_call 10; refine (kawake_any _).mono ?_; rintro e w13 ⟨rfl, m13⟩; have HE := hid (G8.out.step m13); clear m13))
                  go_ret
                  exact ⟨rfl, HE.out.below⟩
                · have hkb : (okey == key) = false := by rw [beq_eq_false_iff_ne]; exact hkk
                  go_wp2_with (first
                    | (go_at_call 19; refine (HG3.out _ _ HB1.out).mono ?_; rintro e w8 ⟨rfl, g8⟩; have y0 := cell_alloc _ (.cells #[.string ⟨#[]⟩, .bool false, .string ⟨#[]⟩, .int .i64 0] 41) _ _ (g8.pull1.blk0.cell (i := 0) rfl); have y1 := cell_alloc _ (.cells #[.string ⟨#[]⟩, .bool false, .string ⟨#[]⟩, .int .i64 0] 41) _ _ (g8.pull1.blk0.cell (i := 1) rfl); have y2 := cell_alloc _ (.cells #[.string ⟨#[]⟩, .bool false, .string ⟨#[]⟩, .int .i64 0] 41) _ _ (g8.pull1.blk0.cell (i := 2) rfl); have G8 := hid (g8.alloc (.cells #[.string ⟨#[]⟩, .bool false, .string ⟨#[]⟩, .int .i64 0] 41)); clear g8))
                  all_goals first | exact absurd (by assumption) hkk | skip
                  exact ⟨⟨j + 1, by omega, by congr 1, HNX.out hkk, G8.out.pull1.drop0⟩, by show m - ((j : Int) + 1).toNat < m - (j : Int).toNat; omega⟩
              | false =>
                rw [if_neg (by decide)] at HG3
                unfold getV itemV sv at HG3
                dsimp only at HG3
                rw [show ((vs + 1 : Nat) : Int) = (vs : Int) + 1 by omega] at HG3
                by_cases hkk : okey = key
                · subst hkk
                  go_wp2_with (first
                    | (go_at_call 19; refine (HG3.out _ _ HB1.out).mono ?_; rintro e w8 ⟨rfl, g8⟩; have y0 := cell_alloc _ (.cells #[.string ⟨okey.toArray⟩, .bool false, .string ⟨value.toArray⟩, .int .i64 ((vs : Int) + 1)] 41) _ _ (g8.pull1.blk0.cell (i := 0) rfl); have y1 := cell_alloc _ (.cells #[.string ⟨okey.toArray⟩, .bool false, .string ⟨value.toArray⟩, .int .i64 ((vs : Int) + 1)] 41) _ _ (g8.pull1.blk0.cell (i := 1) rfl); have y2 := cell_alloc _ (.cells #[.string ⟨okey.toArray⟩, .bool false, .string ⟨value.toArray⟩, .int .i64 ((vs : Int) + 1)] 41) _ _ (g8.pull1.blk0.cell (i := 2) rfl); have G8 := hid (g8.alloc (.cells #[.string ⟨okey.toArray⟩, .bool false, .string ⟨value.toArray⟩, .int .i64 ((vs : Int) + 1)] 41)); clear g8)
                    | (go_at_call 10; refine (kawake_any _).mono ?_; rintro e w13 ⟨rfl, m13⟩; have HE := hid (G8.out.step m13); clear m13))
                  go_ret
                  exact ⟨rfl, HE.out.below⟩
                · have hkb : (okey == key) = false := by rw [beq_eq_false_iff_ne]; exact hkk
                  go_wp2_with (first
                    | (go_at_call 19; refine (HG3.out _ _ HB1.out).mono ?_; rintro e w8 ⟨rfl, g8⟩; have y0 := cell_alloc _ (.cells #[.string ⟨okey.toArray⟩, .bool false, .string ⟨value.toArray⟩, .int .i64 ((vs : Int) + 1)] 41) _ _ (g8.pull1.blk0.cell (i := 0) rfl); have y1 := cell_alloc _ (.cells #[.string ⟨okey.toArray⟩, .bool false, .string ⟨value.toArray⟩, .int .i64 ((vs : Int) + 1)] 41) _ _ (g8.pull1.blk0.cell (i := 1) rfl); have y2 := cell_alloc _ (.cells #[.string ⟨okey.toArray⟩, .bool false, .string ⟨value.toArray⟩, .int .i64 ((vs : Int) + 1)] 41) _ _ (g8.pull1.blk0.cell (i := 2) rfl); have G8 := hid (g8.alloc (.cells #[.string ⟨okey.toArray⟩, .bool false, .string ⟨value.toArray⟩, .int .i64 ((vs : Int) + 1)] 41)); clear g8))
                  all_goals first | exact absurd (by assumption) hkk | skip
                  exact ⟨⟨j + 1, by omega, by congr 1, HNX.out hkk, G8.out.pull1.drop0⟩, by show m - ((j : Int) + 1).toNat < m - (j : Int).toNat; omega⟩
            · have hltn : ¬ ((j : Int) < (m : Int)) := by omega
              have hgl := HOUT.out (fun o ho e => by
                obtain ⟨i, hi, rfl⟩ := List.getElem_of_mem ho
                exact HNK.out i hi (by have := HM.out; omega) e)
              have HG3 := hid (fun w1 B1 (g1 : Held w w1 (rKv sp p s2 :: B1)) => HG2.out w1 B1 key hkey g1)
              rw [hgl, HGET.out] at HG3
              unfold sv at HG3
              have HH := hid hh
              clear hh hgl
              go_wp2_with (first
                | (go_at_call 19; refine (HG3.out _ _ HH.out).mono ?_; rintro e w8 ⟨rfl, g8⟩; have x0 := cell_alloc _ (.cells #[.string kx, .bool gx, .string vx, .int .i64 ax] 41) _ _ (g8.pull1.blk0.cell (i := 0) rfl); have x1 := cell_alloc _ (.cells #[.string kx, .bool gx, .string vx, .int .i64 ax] 41) _ _ (g8.pull1.blk0.cell (i := 1) rfl); have x2 := cell_alloc _ (.cells #[.string kx, .bool gx, .string vx, .int .i64 ax] 41) _ _ (g8.pull1.blk0.cell (i := 2) rfl); have x3 := cell_alloc _ (.cells #[.string kx, .bool gx, .string vx, .int .i64 ax] 41) _ _ (g8.pull1.blk0.cell (i := 3) rfl); have G8 := hid (g8.alloc (.cells #[.string kx, .bool gx, .string vx, .int .i64 ax] 41)); clear g8)
                | (go_at_call 10; refine (kawake_any _).mono ?_; rintro e w13 ⟨rfl, m13⟩; have HE := hid (G8.out.step m13); clear m13))
              go_ret
              exact ⟨rfl, HE.out.below⟩
        · obtain ⟨hr1, hr2, hr3, hr4, -⟩ := Kv.St.refused hpk.good (by omega) he
          have HV2 := hid (fun w1 B1 (g1 : Held w w1 (rKv sp p (s.commit ops).1 :: B1)) => kversion_held g1)
          have HB2 := hid (fun w1 B1 (g1 : Held w w1 (rKv sp p (s.commit ops).1 :: B1)) => kbytes_held g1)
          have HS2 := hid (fun w1 B1 (g1 : Held w w1 (rKv sp p (s.commit ops).1 :: B1)) => ksince_held g1 hgc.1.items (by rw [hr2]; omega) 0)
          rw [hr2] at HV2
          rw [hr4, ← hbs] at HB2
          rw [hr3, ← hall] at HS2
          rw [hr1] at HC
          have he2 : ((s.commit ops).2.2 == 0) = false := by rw [beq_eq_false_iff_ne]; exact he
          generalize (s.commit ops).2.2 = e2 at *
          generalize (s.commit ops).1 = s2 at *
          obtain ⟨vs, hvs⟩ : ∃ vs, vs = s.version := ⟨_, rfl⟩
          rw [← hvs] at HV HV2 hv
          clear hr1 hr2 hr3 hr4 hgc hget hall hbs hvs hpk hnx
          go_wp2_with (first
            | (go_at_call 13; refine (HV.out _ _ GG.out).mono ?_; rintro e w3 ⟨rfl, rfl⟩; clear HV)
            | (go_at_call 24; refine (HB.out _ _ GG.out).mono ?_; rintro e w4 ⟨rfl, g4⟩; replace GG := hid g4; clear g4 HB)
            | (go_at_call 15; refine (HSI.out _ _ GG.out).mono ?_; rintro e w5 ⟨va, rfl, g5⟩; obtain ⟨A5, c5, rfl, -, -⟩ := g5.its_form; replace GG := hid g5.pull1; clear g5 HSI)
            | (go_at_call 19; refine (HG.out _ _ GG.out).mono ?_; rintro e w6 ⟨rfl, g6⟩; replace GG := hid ((g6.block 41 #[.string kx, .bool gx, .string vx, .int .i64 ax]).pull1); clear g6 HG)
            | (go_at_call 12; refine (HC.out _ _ GG.out).mono ?_; rintro e w7 ⟨rfl, g7⟩; replace GG := hid g7; clear g7 HC)
            | (go_at_call 13; refine (HV2.out _ _ GG.out).mono ?_; rintro e w8 ⟨rfl, rfl⟩; clear HV2)
            | (go_at_call 24; refine (HB2.out _ _ GG.out).mono ?_; rintro e w9 ⟨rfl, g9⟩; replace GG := hid g9; clear g9 HB2)
            | (go_at_call 15; refine (HS2.out _ _ GG.out).mono ?_; rintro e w10 ⟨vb, rfl, g10⟩; obtain ⟨A6, c6, rfl, -, -⟩ := g10.its_form; replace GG := hid g10; clear g10 HS2)
            | (go_at_call 21; refine (iequal_any _ _ _ all GG.out.its_rd GG.out.pull3.its_rd).mono ?_; rintro e w12 ⟨rfl, m12⟩; replace GG := hid (GG.out.step m12); clear m12)
            | (go_at_call 10; refine (kawake_any _).mono ?_; rintro e w13 ⟨rfl, m13⟩; have HE := hid (GG.out.step m13); clear m13))
          all_goals first | exact absurd (by assumption) he | skip
          go_ret
          exact ⟨rfl, HE.out.below⟩
end Go.Proofs.YtdbhccehbjhbpaaGreatDoor

/- KvstoreWrites: the walk over the arguments as they come in. -/
namespace Go.Proofs.YtdbhccehbjhbpaaGreatDoor
open Go.ChangeShapes Go.WideShapes Go.ChangeAt Go.RowKit
set_option maxRecDepth 100000 in
theorem writes_row {H : Type} {enc : TypeId × Value → H} (W : World) (base : Nat) (v0 v1 v2 : Value) {d0 d1 d2 : DataW H} {p0 p1 p2 : List MemPlace} {ts : List TypeId} {ds : List (DataW H)} (hsz : (DataW.weightsEach Tryz.prog ts ds).all (· ≤ reachBytes) = true)
    (ok0 : Value.okWide Tryz.prog W .any base 22 v0) (h0 : DataW.Trod enc Tryz.prog W 0 (fun _ => true) true 22 v0 d0 p0)
    (ok1 : Value.okWide Tryz.prog W .any base 29 v1) (h1 : DataW.Trod enc Tryz.prog W 0 (fun _ => true) true 29 v1 d1 p1)
    (ok2 : Value.okWide Tryz.prog W .any base 9 v2) (h2 : DataW.Trod enc Tryz.prog W 0 (fun _ => true) true 9 v2 d2 p2) (t0 : ts[0]? = some 22) (e0 : ds[0]? = some d0) :
    Calls Tryz.prog 5 #[v0, v1, v2] W fun e w' => e = .returned (.bool true) ∧ Below W.heap.size W w' := by
  obtain ⟨x0, hx0⟩ := open_dos ok0 h0
  obtain ⟨x1, hx1⟩ := open_ops ok1 h1
  obtain ⟨s2, rfl, -, -, hs2⟩ := Go.ChangeMaps.open_string Tryz.underlying9 ok2 h2
  have hl2 : s2.data.toList.length ≤ 9223372036854775807 := by
    unfold maxLen at hs2
    have : s2.data.toList.length = s2.size := Array.length_toList
    omega
  rw [sv_of s2]
  have hz0 : x0.length * 64 ≤ 140737488351232 := by
    obtain ⟨A0, c0, hv0, -, -⟩ := hx0.form
    subst hv0
    have := reach_len Tryz.underlying22 h0 hsz t0 e0
    rwa [show Tryz.prog.bytesOf 32 = 64 by kernel_rfl] at this
  exact writes_walk W v0 x0 hx0 hz0 v1 x1 hx1 s2.data.toList hl2
end Go.Proofs.YtdbhccehbjhbpaaGreatDoor
