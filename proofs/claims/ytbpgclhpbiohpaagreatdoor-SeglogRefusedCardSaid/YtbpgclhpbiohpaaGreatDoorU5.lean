/- seglog's laws: the calls that a law is given, as they come in; 'short'; a call's record. -/
import Derived.Test.YtbpgclhpbiohpaaGreatDoorU3
import Derived.Test.YtbpgclhpbiohpaaGreatDoorQ10
import Derived.Test.YtbpgclhpbiohpaaGreatDoorM1
namespace Go.Proofs.YtbpgclhpbiohpaaGreatDoor
open Go.ChangeShapes Go.WideShapes Go.ChangeAt Go.RowKit
open Disk (Dk)

section
variable {H : Type} {enc : TypeId × Value → H} {P : Program} {W : World} {base : Nat} {t e : TypeId}
theorem trod_bools {cs : List Value} {x : DataW H × List MemPlace} {sp : Nat → Bool} {hd : Bool} {fuel base : Nat} (ht : P.underlying t = some (.slice e)) (he : P.underlying e = some .bool) (hc : P.cellsOf e = 1)
    (h : DataW.trod enc P W base sp hd fuel t cs = some x) : ∃ v l, cs = [v] ∧ Rd (· < W.heap.size) W v (boolsV l) := by
  rcases Go.Deep.open_slice1 ht hc h with ⟨rfl, _⟩ | ⟨a, len, cap, m, n, V, D, Pl, rfl, _, hl, hm, hmm, _, hx⟩
  · exact ⟨_, [], rfl, Rd.nil _ _⟩
  · obtain ⟨Bf, hB⟩ := Go.Deep.choose_lt (α := Bool) (p := fun i b => V i = .bool b) (n := m) (fun i hi => by
      obtain ⟨b, hb, _⟩ := DataW.trod_bool he (hx i hi).2
      exact ⟨b, by simpa using hb⟩)
    have hlm : len ≤ m := by rw [hmm]; split <;> omega
    refine ⟨_, (List.range len).map Bf, rfl, some a, cap, by simp [boolsV], by simpa [boolsV] using hl, hm, fun hne => ?_⟩
    have hpos : 0 < len := by
      rcases Nat.eq_zero_or_pos len with h0 | h0
      · subst h0; simp [boolsV] at hne
      · exact h0
    have h0 := (hx 0 (by omega)).1
    have hs : a.spot = none := by
      cases hs : a.spot with
      | none => rfl
      | some s =>
        have : a.add 0 = a := by simp [Addr.add]
        rw [this] at h0
        rw [hB 0 (by omega)] at h0
        unfold World.cell? at h0
        rw [hs] at h0
        split at h0 <;> simp at h0
    have hadd : ∀ j, a.add j = ⟨a.block, a.off + j, none⟩ := fun j => by
      unfold Addr.add
      split
      · rename_i e0; cases a; simp_all
      · rfl
    refine ⟨a.block, a.off, by cases a; simp_all, ?_, fun k u hu => ?_⟩
    · have := World.block_lt_of_cell? W _ h0
      simpa [hadd] using this
    · unfold boolsV at hu
      rw [List.map_map, List.getElem?_map] at hu
      have hk : k < len := by
        rcases Nat.lt_or_ge k len with h | h
        · exact h
        · rw [List.getElem?_eq_none (by simpa using h)] at hu; cases hu
      rw [List.getElem?_range hk] at hu
      rw [← hadd, (hx k (by omega)).1, hB k (by omega)]
      simpa using hu
theorem open_boolsR {v : Value} {d : DataW H} {p : List MemPlace} (ht : P.underlying t = some (.slice e)) (he : P.underlying e = some .bool) (hc : P.cellsOf e = 1) (ok : Value.okWide P W .any base t v)
    (h : DataW.Trod enc P W 0 (fun _ => true) true t v d p) : ∃ l, Rd (· < W.heap.size) W v (boolsV l) := by
  obtain ⟨a0, len, cap, rfl⟩ := okWide_slice ht ok
  obtain ⟨fuel, hf⟩ := h
  obtain ⟨v, l, hv, hr⟩ := trod_bools ht he hc hf
  simp [Value.cells] at hv
  subst hv
  exact ⟨l, hr⟩
end

def doRow (k : LDo) (q : Value × Value) : List Value := [.int .i64 k.op, q.1, .int .i64 k.size, .int .i64 k.n, q.2]
structure DoWf (k : LDo) : Prop where
  op : (Lit.int .i64 k.op).wf = true
  size : (Lit.int .i64 k.size).wf = true
  n : (Lit.int .i64 k.n).wf = true

/-- v is the slice of calls ds, in blocks below B. -/
def Dos (B : Nat) (w : World) (v : Value) (ds : List LDo) : Prop :=
  ∃ qs : List (Value × Value), qs.length = ds.length ∧ RdRows 5 (· < B) w v (List.zipWith doRow ds qs) ∧ ∀ (i : Nat) (d : LDo) (q : Value × Value), ds[i]? = some d → qs[i]? = some q → Rd (· < B) w q.1 (bytesV d.b) ∧ Rd (· < B) w q.2 (boolsV d.keep) ∧ DoWf d
theorem Dos.keep {B : Nat} {w w' : World} {v : Value} {ds : List LDo} (h : Dos B w v ds) (hk : ∀ b, b < B → b < w.heap.size → w'.heap[b]? = w.heap[b]?) : Dos B w' v ds := by
  obtain ⟨qs, hl, hr, hd⟩ := h
  exact ⟨qs, hl, hr.keep hk, fun i d q h1 h2 => ⟨(hd i d q h1 h2).1.keep hk, (hd i d q h1 h2).2.1.keep hk, (hd i d q h1 h2).2.2⟩⟩
theorem Dos.form {B : Nat} {w : World} {v : Value} {ds : List LDo} (h : Dos B w v ds) : ∃ A c, v = .slice A ds.length c ∧ ds.length ≤ c ∧ c ≤ 9223372036854775807 := by
  obtain ⟨qs, hl, ⟨_, A, c, hv, hc, hm, _⟩, _⟩ := h
  have : (List.zipWith doRow ds qs).length = ds.length := by simp [hl]
  rw [this] at hv hc
  exact ⟨A, c, hv, hc, hm⟩
theorem boolsV_length (l : List Bool) : (boolsV l).length = l.length := by simp [boolsV]
/-- a call, as it lies somewhere. -/
structure DoAt (B : Nat) (w : World) (d : LDo) (bA : Option Addr) (bc : Nat) (kA : Option Addr) (kc : Nat) : Prop where
  b : Rd (· < B) w (.slice bA d.b.length bc) (bytesV d.b)
  keep : Rd (· < B) w (.slice kA d.keep.length kc) (boolsV d.keep)
  wf : DoWf d
theorem Dos.at {B : Nat} {w : World} {A : Option Addr} {n c : Nat} {ds : List LDo} (h : Dos B w (.slice A n c) ds) {k : Nat} (hk : k < ds.length) :
    ∃ b off bA bc kA kc, A = some ⟨b, off, none⟩ ∧ b < B ∧ w.cell? ⟨b, off + k * 5, none⟩ = some (.int .i64 ds[k].op) ∧ w.cell? ⟨b, off + k * 5 + 1, none⟩ = some (.slice bA ds[k].b.length bc) ∧ w.cell? ⟨b, off + k * 5 + 2, none⟩ = some (.int .i64 ds[k].size) ∧
      w.cell? ⟨b, off + k * 5 + 3, none⟩ = some (.int .i64 ds[k].n) ∧ w.cell? ⟨b, off + k * 5 + 4, none⟩ = some (.slice kA ds[k].keep.length kc) ∧ DoAt B w ds[k] bA bc kA kc := by
  obtain ⟨qs, hl, ⟨_, A', c', hv, _, _, hA⟩, hd⟩ := h
  injection hv with e1 _ _
  subst e1
  have hkb : k < qs.length := by omega
  have hr : (List.zipWith doRow ds qs)[k]? = some (doRow ds[k] qs[k]) := by
    rw [List.getElem?_zipWith, List.getElem?_eq_getElem hk, List.getElem?_eq_getElem hkb]
  obtain ⟨b, off, rfl, hb, hcell⟩ := hA (by intro e; rw [e] at hr; simp at hr)
  obtain ⟨h1, h2, h3⟩ := hd k _ _ (List.getElem?_eq_getElem hk) (List.getElem?_eq_getElem hkb)
  obtain ⟨bA, bc, hbv, _⟩ := id h1
  obtain ⟨kA, kc, hkv, _⟩ := id h2
  rw [bytesV_length] at hbv
  rw [boolsV_length] at hkv
  have c2 := hcell k 1 _ qs[k].1 hr rfl
  have c4 := hcell k 4 _ qs[k].2 hr rfl
  rw [hbv] at c2 h1
  rw [hkv] at c4 h2
  exact ⟨b, off, bA, bc, kA, kc, rfl, hb, by simpa using hcell k 0 _ _ hr rfl, c2, hcell k 2 _ _ hr rfl, hcell k 3 _ _ hr rfl, c4, h1, h2, h3⟩

set_option maxRecDepth 100000 in
theorem row_do {H : Type} {enc : TypeId × Value → H} {W : World} {base : Nat} {sp : Nat → Bool} {hd : Bool} {r : List Value} (hlen : r.length = 5) {n : Nat} {x : DataW H × List MemPlace} (ht : DataW.trod enc Tryz.prog W base sp hd n 96 r = some x) :
    ∃ (d : LDo) (q : Value × Value), r = doRow d q ∧ Rd (· < W.heap.size) W q.1 (bytesV d.b) ∧ Rd (· < W.heap.size) W q.2 (boolsV d.keep) ∧ DoWf d := by
  obtain ⟨xs, m, rfl, _, _, hxl, hf⟩ := DataW.trod_struct Tryz.underlying96 ht
  match r, hlen with
  | [c0, c1, c2, c3, c4], _ =>
    have get : ∀ (i : Nat) (hi : i < xs.length), xs[i]? = some xs[i] := fun i hi => List.getElem?_eq_getElem hi
    have hsz : xs.length = 5 := by rw [hxl]; rfl
    have f0 := hf 0 _ rfl
    have f1 := hf 1 _ rfl
    have f2 := hf 2 _ rfl
    have f3 := hf 3 _ rfl
    have f4 := hf 4 _ rfl
    have k1 : Tryz.prog.cellsOf 3 = 1 := by kernel_rfl
    have k2 : Tryz.prog.cellsOf 22 = 1 := by kernel_rfl
    have k4 : Tryz.prog.cellsOf 50 = 1 := by kernel_rfl
    simp only [List.getElem_toArray, List.getElem_cons_zero, List.getElem_cons_succ, k1, k2, k4, List.drop_zero, List.drop_succ_cons, List.take_succ_cons, List.take_zero] at f0 f1 f2 f3 f4
    rw [get 0 (by omega)] at f0
    rw [get 1 (by omega)] at f1
    rw [get 2 (by omega)] at f2
    rw [get 3 (by omega)] at f3
    rw [get 4 (by omega)] at f4
    obtain ⟨a0, e0, _, w0⟩ := DataW.trod_int Tryz.underlying3 f0
    obtain ⟨bv, l, e1, hb⟩ := trod_bytes Tryz.underlying22 Tryz.underlying5 (by kernel_rfl) f1
    obtain ⟨a2, e2, _, w2⟩ := DataW.trod_int Tryz.underlying3 f2
    obtain ⟨a3, e3, _, w3⟩ := DataW.trod_int Tryz.underlying3 f3
    obtain ⟨kv, ks, e4, hk⟩ := trod_bools Tryz.underlying50 Tryz.underlying4 (by kernel_rfl) f4
    simp only [List.cons.injEq, and_true] at e0 e1 e2 e3 e4
    subst e0 e1 e2 e3 e4
    exact ⟨⟨a0, l, a2, a3, ks⟩, (c1, c4), rfl, hb, hk, ⟨w0, w2, w3⟩⟩

set_option maxRecDepth 100000 in
theorem open_dos {H : Type} {enc : TypeId × Value → H} {W : World} {base : Nat} {v : Value} {d : DataW H} {p : List MemPlace} (ok : Value.okWide Tryz.prog W .any base 49 v)
    (h : DataW.Trod enc Tryz.prog W 0 (fun _ => true) true 49 v d p) : ∃ ds, Dos W.heap.size W v ds := by
  obtain ⟨rows, hr, hx⟩ := open_rows (k := 5) (by decide) Tryz.underlying49 (by kernel_rfl) ok h
  have each : ∀ r ∈ rows, ∃ (d : LDo) (q : Value × Value), r = doRow d q ∧ Rd (· < W.heap.size) W q.1 (bytesV d.b) ∧ Rd (· < W.heap.size) W q.2 (boolsV d.keep) ∧ DoWf d := by
    intro r hm
    obtain ⟨n, x, ht⟩ := hx r hm
    exact row_do (hr.1 r hm) ht
  clear hx
  have hz : ∀ rows : List (List Value), (∀ r ∈ rows, ∃ (d : LDo) (q : Value × Value), r = doRow d q ∧ Rd (· < W.heap.size) W q.1 (bytesV d.b) ∧ Rd (· < W.heap.size) W q.2 (boolsV d.keep) ∧ DoWf d) →
      ∃ (ds : List LDo) (qs : List (Value × Value)), qs.length = ds.length ∧ rows = List.zipWith doRow ds qs ∧ ∀ (i : Nat) (d : LDo) (q : Value × Value), ds[i]? = some d → qs[i]? = some q → Rd (· < W.heap.size) W q.1 (bytesV d.b) ∧ Rd (· < W.heap.size) W q.2 (boolsV d.keep) ∧ DoWf d := by
    intro rows
    induction rows with
    | nil => intro _; exact ⟨[], [], rfl, rfl, by simp⟩
    | cons r rows ih =>
      intro hall
      obtain ⟨d, q, rfl, h1⟩ := hall _ (List.mem_cons_self ..)
      obtain ⟨ds, qs, h3, h4, h5⟩ := ih (fun r hr => hall r (List.mem_cons_of_mem _ hr))
      refine ⟨d :: ds, q :: qs, by simp [h3], by simp [h4], fun i d' q' g1 g2 => ?_⟩
      cases i with
      | zero => simp at g1 g2; subst g1 g2; exact h1
      | succ i => exact h5 i d' q' (by simpa using g1) (by simpa using g2)
  obtain ⟨ds, qs, h3, rfl, h5⟩ := hz rows each
  exact ⟨ds, qs, h3, hr, h5⟩

/-- how many bytes the first k calls bring, as 'short' counts them. -/
def ShortPost (ds : List LDo) (w : World) (e : Ending) (w' : World) : Prop := ∃ r, e = .returned (.bool r) ∧ (r = true → ds.length ≤ 80 ∧ ∀ d ∈ ds, d.b.length ≤ 131072) ∧ w = w'

set_option maxRecDepth 100000 in
set_option maxHeartbeats 2000000 in
theorem short_any (B : Nat) (w : World) (v : Value) (ds : List LDo) (h : Dos B w v ds) :
    Calls Tryz.prog 21 #[v] w (ShortPost ds w) := by
  obtain ⟨A, c, rfl, hc, hm⟩ := h.form
  have H := hid h
  clear h
  go_enter Tryz.func21, Tryz.ntmps21
  go_wp2
  go_loop [3, 4] (fun z i => ∃ k s : Nat, k ≤ ds.length ∧ k ≤ 81 ∧ i = .int .i64 k ∧ z = .int .i64 s ∧ s ≤ k * 131073 ∧ (s ≤ 131072 → ∀ j, (hj : j < ds.length) → j < k → ds[j].b.length ≤ s)) (fun _ i => ds.length - (intOf i).toNat)
  case atStart => exact ⟨0, 0, Nat.zero_le _, Nat.zero_le _, rfl, rfl, Nat.zero_le _, fun _ j _ h => absurd h (by omega)⟩
  case round =>
    obtain ⟨k, s, hk, hk2, rfl, rfl, hs, hall⟩ := hrel
    have HA := hid hall
    clear hall
    by_cases hlt : k < ds.length
    · by_cases hle : k ≤ 80
      · obtain ⟨b, off, bA, bc, kA, kc, rfl, _, c0, c1, c2, c3, c4, hd⟩ := H.out.at hlt
        obtain ⟨_, _, hv, hcb, hcm, _⟩ := hd.b
        injection hv with _ _ e3
        rw [bytesV_length] at hcb
        rw [← e3] at hcm hcb
        unfold maxLen at hcm
        have HZ : Hid (∀ m : Nat, m = min ds[k].b.length 131073 → (s + m ≤ 131072 → ∀ j, (hj : j < ds.length) → j < k + 1 → ds[j].b.length ≤ s + m)) := hid (fun m hm hsm j hj hjk => by
          rcases Nat.lt_or_ge j k with h | h
          · have := HA.out (by omega) j hj h
            omega
          · have : j = k := by omega
            subst this
            omega)
        clear e3 c0 c2 c3 c4 hd
        by_cases hbig : ds[k].b.length ≤ 131073
        · go_wp2
          all_goals
            go_round
            case rel => exact ⟨k + 1, s + ds[k].b.length, by omega, by omega, by go_num, by go_num, by omega, HZ.out _ (by omega)⟩
            case measure => simp [intOf]; omega
        · go_wp2
          all_goals
            go_round
            case rel => exact ⟨k + 1, s + 131073, by omega, by omega, by go_num, by go_num, by omega, HZ.out _ (by omega)⟩
            case measure => simp [intOf]; omega
      · go_wp2
        go_ret
        exact ⟨_, rfl, fun h => by simp at h, rfl⟩
    · go_wp2
      all_goals
        go_ret
        refine ⟨_, rfl, fun h => ?_, rfl⟩
        first
          | (simp at h; done)
          | (have hs' : s ≤ 131072 := by simp at h; omega
             refine ⟨by simp at h; omega, fun d hd => ?_⟩
             obtain ⟨j, hj, rfl⟩ := List.getElem_of_mem hd
             have := HA.out hs' j hj (by omega)
             omega)

theorem pad_eq (k : LDo) : wrap64 ((IntKind.u64.wrap k.size).tmod 5000) = (k.pad : Int) := by
  have h0 : IntKind.u64.wrap k.size = k.size % 18446744073709551616 := by unfold IntKind.wrap IntKind.bits IntKind.signed; simp
  rw [h0, Int.tmod_eq_emod_of_nonneg (by omega)]
  unfold wrap64 LDo.pad
  omega
def doCells (k : LDo) (bA kA : Option Addr) (bc kc : Nat) : Array Value := #[.int .i64 k.op, .slice bA k.b.length bc, .int .i64 k.size, .int .i64 k.n, .slice kA k.keep.length kc]
set_option maxRecDepth 100000 in
set_option maxHeartbeats 2000000 in
theorem rec_held {w0 w : World} {B : List Res} (h : Held w0 w B) (k : LDo) (bA kA : Option Addr) (bc kc : Nat) (hb : Rd (fun _ => True) w (.slice bA k.b.length bc) (bytesV k.b)) (hl : k.b.length ≤ 131072) :
    Calls Tryz.prog 50 #[.agg #[.int .i64 k.op, .slice bA k.b.length bc, .int .i64 k.size, .int .i64 k.n, .slice kA k.keep.length kc]] w fun e w' => ∃ v', e = .returned v' ∧ Held w0 w' (rBytes v' k.recB :: B) := by
  have h1 := h.block 96 (doCells k bA kA bc kc)
  unfold doCells at h1
  have c1 : (w.alloc (.cells #[.int .i64 k.op, .slice bA k.b.length bc, .int .i64 k.size, .int .i64 k.n, .slice kA k.keep.length kc] 96)).cell? ⟨w.heap.size, 1, none⟩ = some (.slice bA k.b.length bc) := h1.blk0.cell rfl
  have c2 : (w.alloc (.cells #[.int .i64 k.op, .slice bA k.b.length bc, .int .i64 k.size, .int .i64 k.n, .slice kA k.keep.length kc] 96)).cell? ⟨w.heap.size, 2, none⟩ = some (.int .i64 k.size) := h1.blk0.cell rfl
  have HH := hid h1
  have HB := hid (hb.alloc (.cells #[.int .i64 k.op, .slice bA k.b.length bc, .int .i64 k.size, .int .i64 k.n, .slice kA k.keep.length kc] 96))
  have HPAD := hid (show IntKind.i64.wrap ((IntKind.u64.wrap k.size).tmod 5000) = (k.pad : Int) by have := pad_eq k; unfold wrap64 at this; rw [IntKind.wrap_i64]; exact this)
  have hpl : k.pad ≤ 5000 := by unfold LDo.pad; omega
  obtain ⟨i0, hi, hz0, hz1, hz2⟩ := info_parts Tryz.info5
  have HI := hid (And.intro hi (And.intro hz0 (And.intro hz1 hz2)))
  have HR := hid (show bytesV k.recB = bytesV k.b ++ List.replicate k.pad (.int .u8 0) by unfold LDo.recB; rw [bytesV_append]; congr 1; unfold bytesV; rw [List.map_replicate]; rfl)
  have HRL := hid (show k.recB.length = k.b.length + k.pad by unfold LDo.recB; simp)
  generalize k.recB = kr at *
  generalize k.pad = m at *
  clear h h1 hb hi hz0 hz1 hz2
  go_enter Tryz.func50, Tryz.ntmps50
  go_wp2_with fail
  generalize w.alloc (.cells #[.int .i64 k.op, .slice bA k.b.length bc, .int .i64 k.size, .int .i64 k.n, .slice kA k.keep.length kc] 96) = w1 at *
  generalize w.heap.size = kb at *
  go_region_held3 (fun w' => w'.cell? ⟨kb, 1, none⟩ = some (.slice bA k.b.length bc) ∧ w'.cell? ⟨kb, 2, none⟩ = some (.int .i64 k.size))
    (first | exact ⟨c1, c2⟩ | exact ⟨d1, d2⟩ | exact ⟨e1, e2⟩)
    (first
      | (go_at_call 11; refine (clone_held HH.out.drew (fun _ => True) _ k.b HB.out.drew (by omega)).mono ?_; rintro e w2 ⟨v2, rfl, g2⟩; have d1 : w2.cell? ⟨kb, 1, none⟩ = some (.slice bA k.b.length bc) := g2.pull1.blk0.cell rfl; have d2 : w2.cell? ⟨kb, 2, none⟩ = some (.int .i64 k.size) := g2.pull1.blk0.cell rfl; have G2 := hid g2; clear g2)
      | (refine step_zeros_held _ [] _ rfl _ _ 22 3 rfl 5 i0 (.int .u8 0) .i64 .i64 1 Tryz.underlying22 Tryz.underlying3 HI.out.1 HI.out.2.1 HI.out.2.2.1 HI.out.2.2.2 rfl rfl _ (bytesV k.b) k.b.length (bytesV_length k.b) rfl G2.out m (show Value.int .i64 (IntKind.i64.wrap ((IntKind.u64.wrap k.size).tmod 5000)) = _ by rw [HPAD.out]) (by unfold maxLen; omega) (by omega) ?_; intro vA vc w3 g3; have e1 : w3.cell? ⟨kb, 1, none⟩ = some (.slice bA k.b.length bc) := g3.pull1.blk0.cell rfl; have e2 : w3.cell? ⟨kb, 2, none⟩ = some (.int .i64 k.size) := g3.pull1.blk0.cell rfl; have G3 := hid g3; clear g3))
  all_goals
    go_wp2_with fail
    go_ret
    refine ⟨_, rfl, ?_⟩
    have g := G3.out.pull1.drop0
    rw [← HR.out] at g
    exact g
end Go.Proofs.YtbpgclhpbiohpaaGreatDoor
