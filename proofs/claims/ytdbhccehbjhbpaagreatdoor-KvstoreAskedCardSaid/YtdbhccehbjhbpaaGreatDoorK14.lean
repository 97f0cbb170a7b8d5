/- kvstore's laws: the calls that a law is given, as they come in. -/
import Derived.Test.YtdbhccehbjhbpaaGreatDoorK6

namespace Go.Proofs.YtdbhccehbjhbpaaGreatDoor
open Go.ChangeShapes Go.WideShapes Go.ChangeAt Go.RowKit
open Disk (Dk)
open Kv (KOp)

section
variable {H : Type} {enc : TypeId × Value → H} {P : Program} {W : World} {base : Nat} {t e : TypeId}
/-- open_rows, inside. -/
theorem trod_rows {cs : List Value} {x0 : DataW H × List MemPlace} {fuel k : Nat} (hk : 0 < k) (ht : P.underlying t = some (.slice e)) (hc : P.cellsOf e = k)
    (hf : DataW.trod enc P W 0 (fun _ => true) true fuel t cs = some x0) : ∃ v rows, cs = [v] ∧ RdRows k (· < W.heap.size) W v rows ∧ ∀ r ∈ rows, ∃ n x, DataW.trod enc P W 0 (fun _ => true) true n e r = some x := by
  rcases Go.Deep.open_slice ht hf with ⟨hcs, _⟩ | ⟨a, len0, m0, m, n, D, Pl, hcs, _, hl, hm, hmm, _, hx⟩
  · exact ⟨_, [], hcs, ⟨by simp, none, 0, rfl, Nat.le_refl _, by simp [maxLen], fun h => absurd rfl h⟩, by simp⟩
  · simp only [if_true] at hmm
    subst hmm
    obtain ⟨R, hR⟩ := Go.Deep.choose_lt (α := List Value) (p := fun i cs' => W.cells? 0 (a.add (i * P.cellsOf e)) (P.cellsOf e) = some cs' ∧ ∃ x, DataW.trod enc P W 0 (fun _ => true) true n e cs' = some x) (n := m) (fun i hi => by
      obtain ⟨cs', h1, h2⟩ := hx i hi
      exact ⟨cs', h1, _, h2⟩)
    have hget : ∀ i, i < m → ∀ j u, (R i)[j]? = some u → W.cell? ((a.add (i * k)).add j) = some u := fun i hi j u hu => by
      obtain ⟨_, hlen, hcell⟩ := World.cells?_some (hR i hi).1
      rw [hc] at hcell hlen
      have hj : j < (R i).length := (List.getElem?_eq_some_iff.1 hu).1
      rw [hcell j (by omega)]
      exact hu
    have hlenR : ∀ i, i < m → (R i).length = k := fun i hi => by
      obtain ⟨_, hlen, _⟩ := World.cells?_some (hR i hi).1
      rw [hc] at hlen
      exact hlen
    refine ⟨_, (List.range len0).map R, hcs, ⟨fun r hr => ?_, some a, m, by simp, by simpa using hl, hm, fun hx => ?_⟩, fun r hr => ?_⟩
    · obtain ⟨i, hi, rfl⟩ := List.mem_map.1 hr
      exact hlenR i (by have := List.mem_range.1 hi; omega)
    · have hpos : 0 < len0 := by
        rcases Nat.eq_zero_or_pos len0 with h0 | h0
        · subst h0; simp at hx
        · exact h0
      have h0 := hget 0 (by omega) 0 ((R 0)[0]'(by rw [hlenR 0 (by omega)]; exact hk)) (List.getElem?_eq_getElem _)
      have hs : a.spot = none := by
        cases hs : a.spot with
        | none => rfl
        | some s =>
          have : ((a.add (0 * k)).add 0) = a := by simp [Addr.add]
          rw [this] at h0
          unfold World.cell? at h0
          rw [hs] at h0
          split at h0 <;> simp at h0
      have hadd : ∀ i j, (a.add (i * k)).add j = ⟨a.block, a.off + i * k + j, none⟩ := fun i j => by
        have h1 : ∀ (x : Addr) n, x.spot = none → x.add n = ⟨x.block, x.off + n, none⟩ := fun x n hx => by
          unfold Addr.add
          split
          · rename_i e0; subst e0; cases x; simp_all
          · rfl
        rw [h1 a _ hs, h1 _ _ rfl]
      refine ⟨a.block, a.off, by cases a; simp_all, ?_, fun i j r u hr hu => ?_⟩
      · have := World.block_lt_of_cell? W _ h0
        rw [hadd] at this
        exact this
      · rw [List.getElem?_map] at hr
        have hi : i < len0 := by
          rcases Nat.lt_or_ge i len0 with h | h
          · exact h
          · rw [List.getElem?_eq_none (by simpa using h)] at hr; cases hr
        rw [List.getElem?_range hi] at hr
        have hr' : R i = r := by simpa using hr
        subst hr'
        rw [← hadd]
        exact hget i (by omega) j u hu
    · obtain ⟨i, hi, rfl⟩ := List.mem_map.1 hr
      have := List.mem_range.1 hi
      exact ⟨n, (hR i (by omega)).2⟩
theorem trod_bools {cs : List Value} {x : DataW H × List MemPlace} {sp : Nat → Bool} {hd : Bool} {fuel base : Nat} (ht : P.underlying t = some (.slice e)) (he : P.underlying e = some .bool) (hc : P.cellsOf e = 1)
    (h : DataW.trod enc P W base sp hd fuel t cs = some x) : ∃ v l, cs = [v] ∧ Rd (· < W.heap.size) W v (boolsV l) := by
  rcases Go.Deep.open_slice1 ht hc h with ⟨rfl, _⟩ | ⟨a, len, cap, m, n, V, D, Pl, rfl, _, hl, hm, hmm, _, hx⟩
  · exact ⟨_, [], rfl, Rd.nil _ _⟩
  · obtain ⟨Bf, hB⟩ := Go.Deep.choose_lt (α := Bool) (p := fun i b => V i = .bool b) (n := m) (fun i hi => by
      obtain ⟨b, hb, _⟩ := DataW.trod_bool he (hx i hi).2
      exact ⟨b, by simpa using hb⟩)
    have hlm : len ≤ m := by rw [hmm]; split <;> omega
    refine ⟨_, (List.range len).map Bf, rfl, some a, cap, by simp [boolsV], by simpa [boolsV] using hl, hm, fun hne => ?_⟩
    have hpos : 0 < len := by
      rcases Nat.eq_zero_or_pos len with h0 | h0
      · subst h0; simp [boolsV] at hne
      · exact h0
    have h0 := (hx 0 (by omega)).1
    have hs : a.spot = none := by
      cases hs : a.spot with
      | none => rfl
      | some s =>
        have : a.add 0 = a := by simp [Addr.add]
        rw [this] at h0
        rw [hB 0 (by omega)] at h0
        unfold World.cell? at h0
        rw [hs] at h0
        split at h0 <;> simp at h0
    have hadd : ∀ j, a.add j = ⟨a.block, a.off + j, none⟩ := fun j => by
      unfold Addr.add
      split
      · rename_i e0; cases a; simp_all
      · rfl
    refine ⟨a.block, a.off, by cases a; simp_all, ?_, fun k u hu => ?_⟩
    · have := World.block_lt_of_cell? W _ h0
      simpa [hadd] using this
    · unfold boolsV at hu
      rw [List.map_map, List.getElem?_map] at hu
      have hk : k < len := by
        rcases Nat.lt_or_ge k len with h | h
        · exact h
        · rw [List.getElem?_eq_none (by simpa using h)] at hu; cases hu
      rw [List.getElem?_range hk] at hu
      rw [← hadd, (hx k (by omega)).1, hB k (by omega)]
      simpa using hu
end

/-- v is the slice of ops, in blocks of S. -/
def KOps (S : Nat → Prop) (w : World) (v : Value) (ops : List KOp) : Prop :=
  RdRows 3 S w v (ops.map opRow) ∧ ∀ o ∈ ops, o.key.length ≤ 9223372036854775807 ∧ o.value.length ≤ 9223372036854775807
theorem KOps.keep {S : Nat → Prop} {w w' : World} {v : Value} {ops : List KOp} (h : KOps S w v ops) (hk : ∀ b, S b → b < w.heap.size → w'.heap[b]? = w.heap[b]?) : KOps S w' v ops := ⟨h.1.keep hk, h.2⟩
theorem KOps.form {S : Nat → Prop} {w : World} {v : Value} {ops : List KOp} (h : KOps S w v ops) : ∃ O c, v = .slice O ops.length c ∧ ops.length ≤ c ∧ c ≤ 9223372036854775807 := by
  obtain ⟨⟨-, O, c, hv, h1, h2, -⟩, -⟩ := h
  rw [List.length_map] at hv h1
  exact ⟨O, c, hv, h1, h2⟩
theorem RdRows.weak {k : Nat} {S T : Nat → Prop} {w : World} {v : Value} {rows : List (List Value)} (h : RdRows k S w v rows) (hS : ∀ b, S b → T b) : RdRows k T w v rows := by
  obtain ⟨h1, A, c, hv, h2, h3, h4⟩ := h
  exact ⟨h1, A, c, hv, h2, h3, fun hne => by obtain ⟨b, off, e, hb, hc⟩ := h4 hne; exact ⟨b, off, e, hS b hb, hc⟩⟩
/-- ops in old memory. -/
theorem KOps.ops {w0 : World} {v : Value} {ops : List KOp} (h : KOps (· < w0.heap.size) w0 v ops) (B : List Res) : Ops w0 B v ops := fun w' _ g =>
  (h.1.keep (w' := w') fun b hb _ => g.mod.block b hb (fun h => h)).weak fun _ _ => trivial

/-- a call, as a law is given it. -/
structure KDo where
  op : Int
  ops : List KOp
  kA : Option Addr
  kn : Nat
  kc : Nat
  tear : Int
def doRow (k : KDo) (q : Value) : List Value := [.int .i64 k.op, q, .slice k.kA k.kn k.kc, .int .i64 k.tear]
/-- v is the slice of calls ds, in blocks of S; their ops lie in blocks of T. -/
def Dos (S T : Nat → Prop) (w : World) (v : Value) (ds : List KDo) : Prop :=
  ∃ qs : List Value, qs.length = ds.length ∧ RdRows 4 S w v (List.zipWith doRow ds qs) ∧ ∀ (i : Nat) (d : KDo) (q : Value), ds[i]? = some d → qs[i]? = some q → KOps T w q d.ops
theorem Dos.keep {S T : Nat → Prop} {w w' : World} {v : Value} {ds : List KDo} (h : Dos S T w v ds) (hk : ∀ b, S b ∨ T b → b < w.heap.size → w'.heap[b]? = w.heap[b]?) : Dos S T w' v ds := by
  obtain ⟨qs, hl, hr, hd⟩ := h
  exact ⟨qs, hl, hr.keep fun b hb => hk b (.inl hb), fun i d q h1 h2 => (hd i d q h1 h2).keep fun b hb => hk b (.inr hb)⟩
theorem Dos.form {S T : Nat → Prop} {w : World} {v : Value} {ds : List KDo} (h : Dos S T w v ds) : ∃ A c, v = .slice A ds.length c ∧ ds.length ≤ c ∧ c ≤ 9223372036854775807 := by
  obtain ⟨qs, hl, ⟨_, A, c, hv, hc, hm, _⟩, _⟩ := h
  have : (List.zipWith doRow ds qs).length = ds.length := by simp [hl]
  rw [this] at hv hc
  exact ⟨A, c, hv, hc, hm⟩
theorem Dos.at {S T : Nat → Prop} {w : World} {A : Option Addr} {n c : Nat} {ds : List KDo} (h : Dos S T w (.slice A n c) ds) {k : Nat} (hk : k < ds.length) :
    ∃ b off q, A = some ⟨b, off, none⟩ ∧ S b ∧ w.cell? ⟨b, off + k * 4, none⟩ = some (.int .i64 ds[k].op) ∧ w.cell? ⟨b, off + k * 4 + 1, none⟩ = some q ∧ w.cell? ⟨b, off + k * 4 + 2, none⟩ = some (.slice ds[k].kA ds[k].kn ds[k].kc) ∧
      w.cell? ⟨b, off + k * 4 + 3, none⟩ = some (.int .i64 ds[k].tear) ∧ KOps T w q ds[k].ops := by
  obtain ⟨qs, hl, ⟨_, A', c', hv, _, _, hA⟩, hd⟩ := h
  injection hv with e1 _ _
  subst e1
  have hkb : k < qs.length := by omega
  have hr : (List.zipWith doRow ds qs)[k]? = some (doRow ds[k] qs[k]) := by
    rw [List.getElem?_zipWith, List.getElem?_eq_getElem hk, List.getElem?_eq_getElem hkb]
  obtain ⟨b, off, rfl, hb, hcell⟩ := hA (by intro e; rw [e] at hr; simp at hr)
  exact ⟨b, off, qs[k], rfl, hb, by simpa using hcell k 0 _ _ hr rfl, hcell k 1 _ _ hr rfl, hcell k 2 _ _ hr rfl, hcell k 3 _ _ hr rfl, hd k _ _ (List.getElem?_eq_getElem hk) (List.getElem?_eq_getElem hkb)⟩

section
variable {H : Type} {enc : TypeId × Value → H} {W : World} {base : Nat}
set_option maxRecDepth 100000 in
theorem row_op {r : List Value} (hlen : r.length = 3) {n : Nat} {x : DataW H × List MemPlace} (ht : DataW.trod enc Tryz.prog W 0 (fun _ => true) true n 55 r = some x) :
    ∃ o : KOp, r = opRow o ∧ o.key.length ≤ 9223372036854775807 ∧ o.value.length ≤ 9223372036854775807 := by
  obtain ⟨xs, m, rfl, _, _, hxl, hf⟩ := DataW.trod_struct Tryz.underlying55 ht
  match r, hlen with
  | [c0, c1, c2], _ =>
    have get : ∀ (i : Nat) (hi : i < xs.length), xs[i]? = some xs[i] := fun i hi => List.getElem?_eq_getElem hi
    have hsz : xs.length = 3 := by rw [hxl]; rfl
    have f0 := hf 0 _ rfl
    have f1 := hf 1 _ rfl
    have f2 := hf 2 _ rfl
    have k1 : Tryz.prog.cellsOf 9 = 1 := by kernel_rfl
    have k2 : Tryz.prog.cellsOf 4 = 1 := by kernel_rfl
    simp only [List.getElem_toArray, List.getElem_cons_zero, List.getElem_cons_succ, k1, k2, List.drop_zero, List.drop_succ_cons, List.take_succ_cons, List.take_zero] at f0 f1 f2
    rw [get 0 (by omega)] at f0
    rw [get 1 (by omega)] at f1
    rw [get 2 (by omega)] at f2
    obtain ⟨s0, e0, _, w0⟩ := DataW.trod_string Tryz.underlying9 f0
    obtain ⟨b1, e1, _⟩ := DataW.trod_bool Tryz.underlying4 f1
    obtain ⟨s2, e2, _, w2⟩ := DataW.trod_string Tryz.underlying9 f2
    simp only [List.cons.injEq, and_true] at e0 e1 e2
    subst e0 e1 e2
    exact ⟨⟨s0.data.toList, b1, s2.data.toList⟩, by unfold opRow; rw [sv_of s0, sv_of s2], by
      unfold maxLen at w0
      have : s0.data.toList.length = s0.size := Array.length_toList
      show s0.data.toList.length ≤ _
      omega, by
      unfold maxLen at w2
      have : s2.data.toList.length = s2.size := Array.length_toList
      show s2.data.toList.length ≤ _
      omega⟩

set_option maxRecDepth 100000 in
theorem ops_of {rows : List (List Value)} {v : Value} (hr : RdRows 3 (· < W.heap.size) W v rows) (hx : ∀ r ∈ rows, ∃ n x, DataW.trod enc Tryz.prog W 0 (fun _ => true) true n 55 r = some x) : ∃ ops, KOps (· < W.heap.size) W v ops := by
  have each : ∀ r ∈ rows, ∃ o : KOp, r = opRow o ∧ o.key.length ≤ 9223372036854775807 ∧ o.value.length ≤ 9223372036854775807 := fun r hm => by
    obtain ⟨n, x, ht⟩ := hx r hm
    exact row_op (hr.1 r hm) ht
  have hz : ∀ rows : List (List Value), (∀ r ∈ rows, ∃ o : KOp, r = opRow o ∧ o.key.length ≤ 9223372036854775807 ∧ o.value.length ≤ 9223372036854775807) →
      ∃ ops : List KOp, rows = ops.map opRow ∧ ∀ o ∈ ops, o.key.length ≤ 9223372036854775807 ∧ o.value.length ≤ 9223372036854775807 := by
    intro rows
    induction rows with
    | nil => intro _; exact ⟨[], rfl, by simp⟩
    | cons r rows ih =>
      intro hall
      obtain ⟨o, rfl, h1⟩ := hall _ (List.mem_cons_self ..)
      obtain ⟨ops, rfl, h2⟩ := ih (fun r hr => hall r (List.mem_cons_of_mem _ hr))
      refine ⟨o :: ops, rfl, fun p hp => ?_⟩
      rcases List.mem_cons.1 hp with rfl | hp
      · exact h1
      · exact h2 p hp
  obtain ⟨ops, rfl, h⟩ := hz rows each
  exact ⟨ops, hr, h⟩
set_option maxRecDepth 100000 in
theorem open_ops {v : Value} {d : DataW H} {p : List MemPlace} (ok : Value.okWide Tryz.prog W .any base 29 v)
    (h : DataW.Trod enc Tryz.prog W 0 (fun _ => true) true 29 v d p) : ∃ ops, KOps (· < W.heap.size) W v ops := by
  obtain ⟨rows, hr, hx⟩ := open_rows (k := 3) (by decide) Tryz.underlying29 (by kernel_rfl) ok h
  exact ops_of hr hx

set_option maxRecDepth 100000 in
theorem row_do {r : List Value} (hlen : r.length = 4) {n : Nat} {x : DataW H × List MemPlace} (ht : DataW.trod enc Tryz.prog W 0 (fun _ => true) true n 32 r = some x) :
    ∃ (d : KDo) (q : Value), r = doRow d q ∧ KOps (· < W.heap.size) W q d.ops := by
  obtain ⟨xs, m, rfl, _, _, hxl, hf⟩ := DataW.trod_struct Tryz.underlying32 ht
  match r, hlen with
  | [c0, c1, c2, c3], _ =>
    have get : ∀ (i : Nat) (hi : i < xs.length), xs[i]? = some xs[i] := fun i hi => List.getElem?_eq_getElem hi
    have hsz : xs.length = 4 := by rw [hxl]; rfl
    have f0 := hf 0 _ rfl
    have f1 := hf 1 _ rfl
    have f2 := hf 2 _ rfl
    have f3 := hf 3 _ rfl
    have k1 : Tryz.prog.cellsOf 3 = 1 := by kernel_rfl
    have k2 : Tryz.prog.cellsOf 29 = 1 := by kernel_rfl
    have k4 : Tryz.prog.cellsOf 30 = 1 := by kernel_rfl
    simp only [List.getElem_toArray, List.getElem_cons_zero, List.getElem_cons_succ, k1, k2, k4, List.drop_zero, List.drop_succ_cons, List.take_succ_cons, List.take_zero] at f0 f1 f2 f3
    rw [get 0 (by omega)] at f0
    rw [get 1 (by omega)] at f1
    rw [get 2 (by omega)] at f2
    rw [get 3 (by omega)] at f3
    obtain ⟨a0, e0, _, w0⟩ := DataW.trod_int Tryz.underlying3 f0
    obtain ⟨ov, rows, e1, hr, hx⟩ := trod_rows (k := 3) (by decide) Tryz.underlying29 (by kernel_rfl) f1
    obtain ⟨kv, ks, e2, kA, kc, hkv, -⟩ := trod_bools Tryz.underlying30 Tryz.underlying4 (by kernel_rfl) f2
    obtain ⟨a3, e3, _, w3⟩ := DataW.trod_int Tryz.underlying3 f3
    obtain ⟨ops, ho⟩ := ops_of hr hx
    simp only [List.cons.injEq, and_true] at e0 e1 e2 e3
    subst e0 e1 e2 e3 hkv
    exact ⟨⟨a0, ops, kA, _, kc, a3⟩, c1, rfl, ho⟩
set_option maxRecDepth 100000 in
theorem open_dos {v : Value} {d : DataW H} {p : List MemPlace} (ok : Value.okWide Tryz.prog W .any base 22 v)
    (h : DataW.Trod enc Tryz.prog W 0 (fun _ => true) true 22 v d p) : ∃ ds, Dos (· < W.heap.size) (· < W.heap.size) W v ds := by
  obtain ⟨rows, hr, hx⟩ := open_rows (k := 4) (by decide) Tryz.underlying22 (by kernel_rfl) ok h
  have each : ∀ r ∈ rows, ∃ (d : KDo) (q : Value), r = doRow d q ∧ KOps (· < W.heap.size) W q d.ops := by
    intro r hm
    obtain ⟨n, x, ht⟩ := hx r hm
    exact row_do (hr.1 r hm) ht
  clear hx
  have hz : ∀ rows : List (List Value), (∀ r ∈ rows, ∃ (d : KDo) (q : Value), r = doRow d q ∧ KOps (· < W.heap.size) W q d.ops) →
      ∃ (ds : List KDo) (qs : List Value), qs.length = ds.length ∧ rows = List.zipWith doRow ds qs ∧ ∀ (i : Nat) (d : KDo) (q : Value), ds[i]? = some d → qs[i]? = some q → KOps (· < W.heap.size) W q d.ops := by
    intro rows
    induction rows with
    | nil => intro _; exact ⟨[], [], rfl, rfl, by simp⟩
    | cons r rows ih =>
      intro hall
      obtain ⟨d, q, rfl, h1⟩ := hall _ (List.mem_cons_self ..)
      obtain ⟨ds, qs, h3, h4, h5⟩ := ih (fun r hr => hall r (List.mem_cons_of_mem _ hr))
      refine ⟨d :: ds, q :: qs, by simp [h3], by simp [h4], fun i d' q' g1 g2 => ?_⟩
      cases i with
      | zero => simp at g1 g2; subst g1 g2; exact h1
      | succ i => exact h5 i d' q' (by simpa using g1) (by simpa using g2)
  obtain ⟨ds, qs, h3, rfl, h5⟩ := hz rows each
  exact ⟨ds, qs, h3, hr, h5⟩
end
end Go.Proofs.YtdbhccehbjhbpaaGreatDoor
