/- link: the calls that a law is given, as they come in; 'short'. -/
import Derived.Test.YtcdeknbbeghljaaL8
import Derived.Test.YtcdeknbbeghljaaA0
namespace Go.Proofs.Ytcdeknbbeghljaa
open Go.ChangeShapes Go.WideShapes Go.ChangeAt Go.RowKit

structure Link.Do where
  op : Int
  id : Int
  a : Int
  b : Int
  bytes : List UInt8
open Link

def doRow (d : Do) (bv : Value) : List Value := [.int .i64 d.op, .int .i64 d.id, .int .i64 d.a, .int .i64 d.b, bv]
structure Link.Do.Wf (d : Do) : Prop where
  op : (Lit.int .i64 d.op).wf = true
  id : (Lit.int .i64 d.id).wf = true
  a : (Lit.int .i64 d.a).wf = true
  b : (Lit.int .i64 d.b).wf = true

/-- v is the slice of calls ds, in blocks below B. -/
def Dos (B : Nat) (w : World) (v : Value) (ds : List Do) : Prop :=
  ∃ bvs : List Value, bvs.length = ds.length ∧ RdRows 5 (· < B) w v (List.zipWith doRow ds bvs) ∧ ∀ (i : Nat) (d : Do) (bv : Value), ds[i]? = some d → bvs[i]? = some bv → Rd (· < B) w bv (bytesV d.bytes) ∧ d.Wf

theorem Dos.keep {B : Nat} {w w' : World} {v : Value} {ds : List Do} (h : Dos B w v ds) (hk : ∀ b, b < B → b < w.heap.size → w'.heap[b]? = w.heap[b]?) : Dos B w' v ds := by
  obtain ⟨bvs, hl, hr, hd⟩ := h
  exact ⟨bvs, hl, hr.keep hk, fun i d bv h1 h2 => ⟨(hd i d bv h1 h2).1.keep hk, (hd i d bv h1 h2).2⟩⟩

theorem Dos.form {B : Nat} {w : World} {v : Value} {ds : List Do} (h : Dos B w v ds) : ∃ A c, v = .slice A ds.length c ∧ ds.length ≤ c ∧ c ≤ 9223372036854775807 := by
  obtain ⟨bvs, hl, ⟨_, A, c, hv, hc, hm, _⟩, _⟩ := h
  have : (List.zipWith doRow ds bvs).length = ds.length := by simp [hl]
  rw [this] at hv hc
  exact ⟨A, c, hv, hc, hm⟩

theorem Dos.at {B : Nat} {w : World} {A : Option Addr} {n c : Nat} {ds : List Do} (h : Dos B w (.slice A n c) ds) {k : Nat} (hk : k < ds.length) :
    ∃ b off bA bc, A = some ⟨b, off, none⟩ ∧ b < B ∧ w.cell? ⟨b, off + k * 5, none⟩ = some (.int .i64 ds[k].op) ∧ w.cell? ⟨b, off + k * 5 + 1, none⟩ = some (.int .i64 ds[k].id) ∧ w.cell? ⟨b, off + k * 5 + 2, none⟩ = some (.int .i64 ds[k].a) ∧
      w.cell? ⟨b, off + k * 5 + 3, none⟩ = some (.int .i64 ds[k].b) ∧ w.cell? ⟨b, off + k * 5 + 4, none⟩ = some (.slice bA ds[k].bytes.length bc) ∧ Rd (· < B) w (.slice bA ds[k].bytes.length bc) (bytesV ds[k].bytes) ∧ ds[k].Wf := by
  obtain ⟨bvs, hl, ⟨_, A', c', hv, _, _, hA⟩, hd⟩ := h
  injection hv with e1 _ _
  subst e1
  have hkb : k < bvs.length := by omega
  have hr : (List.zipWith doRow ds bvs)[k]? = some (doRow ds[k] bvs[k]) := by
    rw [List.getElem?_zipWith, List.getElem?_eq_getElem hk, List.getElem?_eq_getElem hkb]
  obtain ⟨b, off, rfl, hb, hcell⟩ := hA (by intro e; rw [e] at hr; simp at hr)
  obtain ⟨h1, h2⟩ := hd k _ _ (List.getElem?_eq_getElem hk) (List.getElem?_eq_getElem hkb)
  obtain ⟨bA, bc, hbv, _⟩ := id h1
  rw [bytesV_length] at hbv
  have c4 := hcell k 4 _ bvs[k] hr rfl
  rw [hbv] at c4 h1
  exact ⟨b, off, bA, bc, rfl, hb, by simpa using hcell k 0 _ _ hr rfl, hcell k 1 _ _ hr rfl, hcell k 2 _ _ hr rfl, hcell k 3 _ _ hr rfl, c4, h1, h2⟩

set_option maxRecDepth 100000 in
theorem open_dos {H : Type} {enc : TypeId × Value → H} {W : World} {base : Nat} {v : Value} {d : DataW H} {p : List MemPlace} (ok : Value.okWide Try.prog W .any base 22 v)
    (h : DataW.Trod enc Try.prog W 0 (fun _ => true) true 22 v d p) : ∃ ds, Dos W.heap.size W v ds := by
  obtain ⟨rows, hr, hx⟩ := open_rows (k := 5) (by decide) Try.underlying22 (by kernel_rfl) ok h
  have each : ∀ r ∈ rows, ∃ (d : Do) (bv : Value), r = doRow d bv ∧ Rd (· < W.heap.size) W bv (bytesV d.bytes) ∧ d.Wf := by
    intro r hm
    obtain ⟨n, x, ht⟩ := hx r hm
    have hlen := hr.1 r hm
    obtain ⟨xs, m, rfl, _, _, hxl, hf⟩ := DataW.trod_struct Try.underlying33 ht
    match r, hlen with
    | [c0, c1, c2, c3, c4], _ =>
      have get : ∀ (i : Nat) (hi : i < xs.length), xs[i]? = some xs[i] := fun i hi => List.getElem?_eq_getElem hi
      have hsz : xs.length = 5 := by rw [hxl]; rfl
      have f0 := hf 0 _ rfl
      have f1 := hf 1 _ rfl
      have f2 := hf 2 _ rfl
      have f3 := hf 3 _ rfl
      have f4 := hf 4 _ rfl
      have k1 : Try.prog.cellsOf 3 = 1 := by kernel_rfl
      have k2 : Try.prog.cellsOf 30 = 1 := by kernel_rfl
      simp only [List.getElem_toArray, List.getElem_cons_zero, List.getElem_cons_succ, k1, k2, List.drop_zero, List.drop_succ_cons, List.take_succ_cons, List.take_zero] at f0 f1 f2 f3 f4
      rw [get 0 (by omega)] at f0
      rw [get 1 (by omega)] at f1
      rw [get 2 (by omega)] at f2
      rw [get 3 (by omega)] at f3
      rw [get 4 (by omega)] at f4
      obtain ⟨a0, e0, _, w0⟩ := DataW.trod_int Try.underlying3 f0
      obtain ⟨a1, e1, _, w1⟩ := DataW.trod_int Try.underlying3 f1
      obtain ⟨a2, e2, _, w2⟩ := DataW.trod_int Try.underlying3 f2
      obtain ⟨a3, e3, _, w3⟩ := DataW.trod_int Try.underlying3 f3
      obtain ⟨bv, l, e4, hb⟩ := trod_bytes Try.underlying30 Try.underlying5 (by kernel_rfl) f4
      simp only [List.cons.injEq, and_true] at e0 e1 e2 e3 e4
      subst e0 e1 e2 e3 e4
      exact ⟨⟨a0, a1, a2, a3, l⟩, _, rfl, hb, ⟨w0, w1, w2, w3⟩⟩
  clear hx
  have hz : ∀ rows : List (List Value), (∀ r ∈ rows, ∃ (d : Do) (bv : Value), r = doRow d bv ∧ Rd (· < W.heap.size) W bv (bytesV d.bytes) ∧ d.Wf) →
      ∃ (ds : List Do) (bvs : List Value), bvs.length = ds.length ∧ rows = List.zipWith doRow ds bvs ∧ ∀ (i : Nat) (d : Do) (bv : Value), ds[i]? = some d → bvs[i]? = some bv → Rd (· < W.heap.size) W bv (bytesV d.bytes) ∧ d.Wf := by
    intro rows
    induction rows with
    | nil => intro _; exact ⟨[], [], rfl, rfl, by simp⟩
    | cons r rows ih =>
      intro hall
      obtain ⟨d, bv, rfl, h1, h2⟩ := hall _ (List.mem_cons_self ..)
      obtain ⟨ds, bvs, h3, h4, h5⟩ := ih (fun r hr => hall r (List.mem_cons_of_mem _ hr))
      refine ⟨d :: ds, bv :: bvs, by simp [h3], by simp [h4], fun i d' bv' g1 g2 => ?_⟩
      cases i with
      | zero => simp at g1 g2; subst g1 g2; exact ⟨h1, h2⟩
      | succ i => exact h5 i d' bv' (by simpa using g1) (by simpa using g2)
  obtain ⟨ds, bvs, h3, rfl, h5⟩ := hz rows each
  exact ⟨ds, bvs, h3, hr, h5⟩

/-- how many bytes the first k calls bring. -/
def dlen (ds : List Do) (k : Nat) : Nat := ((ds.take k).map fun d => d.bytes.length).sum
theorem dlen_zero (ds : List Do) : dlen ds 0 = 0 := rfl
theorem dlen_succ (ds : List Do) (k : Nat) (hk : k < ds.length) : dlen ds (k + 1) = dlen ds k + ds[k].bytes.length := by
  unfold dlen; rw [List.take_succ_eq_append_getElem hk, List.map_append, List.sum_append]; simp
theorem dlen_mono (ds : List Do) {k j : Nat} (h : k ≤ j) : dlen ds k ≤ dlen ds j := by
  unfold dlen
  rw [show ds.take j = (ds.take j).take k ++ (ds.take j).drop k from (List.take_append_drop _ _).symm, List.take_take, Nat.min_eq_left h, List.map_append, List.sum_append]
  omega

def ShortPost (ds : List Do) (w : World) (e : Ending) (w' : World) : Prop := ∃ r, e = .returned (.bool r) ∧ (r = true → ds.length ≤ 200 ∧ dlen ds ds.length ≤ 1048576) ∧ w = w'

set_option maxRecDepth 100000 in
set_option maxHeartbeats 2000000 in
theorem short_any (B : Nat) (w : World) (v : Value) (ds : List Do) (h : Dos B w v ds) :
    Calls Try.prog 10 #[v] w (ShortPost ds w) := by
  obtain ⟨A, c, rfl, hc, hm⟩ := h.form
  have H := hid h
  clear h
  go_enter Try.func10, Try.ntmps10
  go_wp2
  go_loop [3, 4] (fun z i => ∃ k : Nat, k ≤ ds.length ∧ k ≤ 201 ∧ i = .int .i64 k ∧ z = .int .i64 (dlen ds k : Nat) ∧ dlen ds k ≤ k * 262144) (fun _ i => ds.length - (intOf i).toNat)
  case atStart => exact ⟨0, Nat.zero_le _, Nat.zero_le _, rfl, rfl, by simp [dlen]⟩
  case round =>
    obtain ⟨k, hk, hk2, rfl, rfl, hs⟩ := hrel
    by_cases hlt : k < ds.length
    · by_cases hle : k ≤ 200
      · obtain ⟨b, off, bA, bc, rfl, _, c0, c1, c2, c3, c4, hr, _⟩ := H.out.at hlt
        obtain ⟨_, _, hv, hcb, hcm, _⟩ := hr
        injection hv with _ _ e3
        rw [bytesV_length] at hcb
        rw [← e3] at hcm hcb
        unfold maxLen at hcm
        have hsucc := dlen_succ ds k hlt
        have HS := hid hsucc
        clear hsucc e3 c0 c1 c2 c3
        by_cases hbig : 262144 < ds[k].bytes.length
        · go_wp2
          go_ret
          exact ⟨false, rfl, by simp, rfl⟩
        · go_wp2
          go_round
          case rel => exact ⟨k + 1, by omega, by omega, by go_num, by rw [HS.out]; go_num, by rw [HS.out]; omega⟩
          case measure => simp [intOf]; omega
      · go_wp2
        go_ret
        exact ⟨_, rfl, fun h => by simp at h, rfl⟩
    · have hkk : k = ds.length := by omega
      go_wp2
      all_goals
        go_ret
        refine ⟨_, rfl, fun h => ?_, rfl⟩
        have hd : dlen ds ds.length = dlen ds k := by rw [hkk]
        first | (simp at h; done) | (simp at h; omega)
end Go.Proofs.Ytcdeknbbeghljaa
