/- Arguments as they come in, opened: bytes, ints. -/
import Derived.Test.YtcdeknbbeghljaaB0
import Derived.ProofKit
import Derived.OpenShut
import Derived.Deep.Slices
namespace Go.Proofs.Ytcdeknbbeghljaa
open Go.ChangeShapes Go.WideShapes Go.ChangeAt Go.RowKit

section
variable {H : Type} {enc : TypeId × Value → H} {P : Program} {W : World} {base : Nat} {t e : TypeId}

def toBytes (zs : List Int) : List UInt8 := zs.map fun n => UInt8.ofNat n.toNat
theorem toBytes_bytesV {zs : List Int} (h : ∀ n ∈ zs, (Lit.int .u8 n).wf = true) : bytesV (toBytes zs) = zs.map (Value.int .u8) := by
  unfold bytesV toBytes
  rw [List.map_map]
  refine List.map_congr_left fun n hn => ?_
  have hw := h n hn
  have hb : 0 ≤ n ∧ n < 256 := by
    simp [Lit.wf, IntKind.min, IntKind.max, IntKind.bits, IntKind.signed] at hw
    omega
  simp only [Function.comp]
  congr 1
  rw [UInt8.toNat_ofNat']
  have : n.toNat % 2 ^ 8 = n.toNat := Nat.mod_eq_of_lt (by omega)
  rw [this]
  omega

/-- cells that hold a slice of bytes. -/
theorem trod_bytes {cs : List Value} {x : DataW H × List MemPlace} {sp : Nat → Bool} {hd : Bool} {fuel base : Nat} (ht : P.underlying t = some (.slice e)) (he : P.underlying e = some (.int .u8)) (hc : P.cellsOf e = 1)
    (h : DataW.trod enc P W base sp hd fuel t cs = some x) : ∃ v l, cs = [v] ∧ Rd (· < W.heap.size) W v (bytesV l) := by
  rcases open_ints ht he hc h with ⟨rfl, _⟩ | ⟨a, len, cap, zs, rfl, _, hl, hm, hz, _, hcell, hwf⟩
  · exact ⟨_, [], rfl, Rd.nil _ _⟩
  · have hlen : len ≤ zs.length := by rw [hz]; split <;> omega
    refine ⟨_, toBytes (zs.take len), rfl, some a, cap, ?_, ?_, hm, fun hx => ?_⟩
    · rw [bytesV_length]; unfold toBytes; rw [List.length_map, List.length_take]; congr 1; omega
    · rw [bytesV_length]; unfold toBytes; rw [List.length_map, List.length_take]; omega
    · have hwf' : ∀ n ∈ zs.take len, (Lit.int .u8 n).wf = true := fun n hn => hwf n (List.mem_of_mem_take hn)
      rw [toBytes_bytesV hwf'] at hx
      have hpos : 0 < len := by
        rcases Nat.eq_zero_or_pos len with h0 | h0
        · subst h0; simp at hx
        · exact h0
      have h0 := hcell 0 (by omega)
      have hs : a.spot = none := by
        cases hs : a.spot with
        | none => rfl
        | some s =>
          have : a.add 0 = a := by simp [Addr.add]
          rw [this] at h0
          unfold World.cell? at h0
          rw [hs] at h0
          split at h0 <;> simp at h0
      have hadd : ∀ j, a.add j = ⟨a.block, a.off + j, none⟩ := fun j => by
        unfold Addr.add
        split
        · rename_i e0; cases a; simp_all
        · rfl
      refine ⟨a.block, a.off, by cases a; simp_all, ?_, fun k u hu => ?_⟩
      · have := World.block_lt_of_cell? W _ h0
        simpa [hadd] using this
      · rw [toBytes_bytesV hwf', List.getElem?_map] at hu
        rw [← hadd]
        have hk : k < (zs.take len).length := by
          rcases Nat.lt_or_ge k (zs.take len).length with h | h
          · exact h
          · rw [List.getElem?_eq_none h] at hu; cases hu
        rw [List.length_take] at hk
        rw [hcell k (by omega), ← hu, List.getElem?_take, if_pos (by omega), List.getElem?_eq_getElem (by omega), List.getD_eq_getElem?_getD, List.getElem?_eq_getElem (by omega)]
        rfl

theorem open_bytesR {v : Value} {d : DataW H} {p : List MemPlace} (ht : P.underlying t = some (.slice e)) (he : P.underlying e = some (.int .u8)) (hc : P.cellsOf e = 1) (ok : Value.okWide P W .any base t v)
    (h : DataW.Trod enc P W 0 (fun _ => true) true t v d p) : ∃ l, Rd (· < W.heap.size) W v (bytesV l) := by
  obtain ⟨a0, len, cap, rfl⟩ := okWide_slice ht ok
  obtain ⟨fuel, hf⟩ := h
  obtain ⟨v, l, hv, hr⟩ := trod_bytes ht he hc hf
  simp [Value.cells] at hv
  subst hv
  exact ⟨l, hr⟩

theorem open_intR {v : Value} {d : DataW H} {p : List MemPlace} {k : IntKind} (ht : P.underlying t = some (.int k)) (ok : Value.okWide P W .any base t v)
    (h : DataW.Trod enc P W 0 (fun _ => true) true t v d p) : ∃ x, v = .int k x ∧ (Lit.int k x).wf = true := by
  obtain ⟨x, rfl, _, _, hw⟩ := open_int ht ok h
  exact ⟨x, rfl, hw⟩

/-- The slice value v holds the rows of cells, k cells each. -/
def RdRows (k : Nat) (S : Nat → Prop) (w : World) (v : Value) (rows : List (List Value)) : Prop :=
  (∀ r ∈ rows, r.length = k) ∧ ∃ A c, v = .slice A rows.length c ∧ rows.length ≤ c ∧ c ≤ maxLen ∧
    (rows ≠ [] → ∃ b off, A = some ⟨b, off, none⟩ ∧ S b ∧ ∀ (i j : Nat) (r : List Value) (u : Value), rows[i]? = some r → r[j]? = some u → w.cell? ⟨b, off + i * k + j, none⟩ = some u)

theorem RdRows.keep {k : Nat} {S : Nat → Prop} {w w' : World} {v : Value} {rows : List (List Value)} (h : RdRows k S w v rows) (hk : ∀ b, S b → b < w.heap.size → w'.heap[b]? = w.heap[b]?) : RdRows k S w' v rows := by
  obtain ⟨hl, A, c, hv, hc, hm, hA⟩ := h
  refine ⟨hl, A, c, hv, hc, hm, fun hx => ?_⟩
  obtain ⟨b, off, ha, hs, hcell⟩ := hA hx
  exact ⟨b, off, ha, hs, fun i j r u hr hu => (World.cell?_of_block (a := ⟨b, off + i * k + j, none⟩) (hk b hs (World.block_lt_of_cell? w _ (hcell i j r u hr hu)))).trans (hcell i j r u hr hu)⟩

theorem open_rows {v : Value} {d : DataW H} {p : List MemPlace} {k : Nat} (hk : 0 < k) (ht : P.underlying t = some (.slice e)) (hc : P.cellsOf e = k) (ok : Value.okWide P W .any base t v)
    (h : DataW.Trod enc P W 0 (fun _ => true) true t v d p) : ∃ rows, RdRows k (· < W.heap.size) W v rows ∧ ∀ r ∈ rows, ∃ n x, DataW.trod enc P W 0 (fun _ => true) true n e r = some x := by
  obtain ⟨a0, len0, cap0, rfl⟩ := okWide_slice ht ok
  obtain ⟨fuel, hf⟩ := h
  rcases Go.Deep.open_slice ht hf with ⟨hcs, _⟩ | ⟨a, len, cap, m, n, D, Pl, hcs, _, hl, hm, hmm, _, hx⟩
  · simp [Value.cells] at hcs
    obtain ⟨rfl, rfl, rfl⟩ := hcs
    exact ⟨[], ⟨by simp, none, 0, rfl, Nat.le_refl _, by simp [maxLen], fun h => absurd rfl h⟩, by simp⟩
  · simp [Value.cells] at hcs
    obtain ⟨rfl, rfl, rfl⟩ := hcs
    simp only [if_true] at hmm
    subst hmm
    obtain ⟨R, hR⟩ := Go.Deep.choose_lt (α := List Value) (p := fun i cs' => W.cells? 0 (a.add (i * P.cellsOf e)) (P.cellsOf e) = some cs' ∧ ∃ x, DataW.trod enc P W 0 (fun _ => true) true n e cs' = some x) (n := m) (fun i hi => by
      obtain ⟨cs', h1, h2⟩ := hx i hi
      exact ⟨cs', h1, _, h2⟩)
    have hget : ∀ i, i < m → ∀ j u, (R i)[j]? = some u → W.cell? ((a.add (i * k)).add j) = some u := fun i hi j u hu => by
      obtain ⟨_, hlen, hcell⟩ := World.cells?_some (hR i hi).1
      rw [hc] at hcell hlen
      have hj : j < (R i).length := (List.getElem?_eq_some_iff.1 hu).1
      rw [hcell j (by omega)]
      exact hu
    have hlenR : ∀ i, i < m → (R i).length = k := fun i hi => by
      obtain ⟨_, hlen, _⟩ := World.cells?_some (hR i hi).1
      rw [hc] at hlen
      exact hlen
    refine ⟨(List.range len0).map R, ⟨fun r hr => ?_, some a, m, by simp, by simpa using hl, hm, fun hx => ?_⟩, fun r hr => ?_⟩
    · obtain ⟨i, hi, rfl⟩ := List.mem_map.1 hr
      exact hlenR i (by have := List.mem_range.1 hi; omega)
    · have hpos : 0 < len0 := by
        rcases Nat.eq_zero_or_pos len0 with h0 | h0
        · subst h0; simp at hx
        · exact h0
      have h0 := hget 0 (by omega) 0 ((R 0)[0]'(by rw [hlenR 0 (by omega)]; exact hk)) (List.getElem?_eq_getElem _)
      have hs : a.spot = none := by
        cases hs : a.spot with
        | none => rfl
        | some s =>
          have : ((a.add (0 * k)).add 0) = a := by simp [Addr.add]
          rw [this] at h0
          unfold World.cell? at h0
          rw [hs] at h0
          split at h0 <;> simp at h0
      have hadd : ∀ i j, (a.add (i * k)).add j = ⟨a.block, a.off + i * k + j, none⟩ := fun i j => by
        have h1 : ∀ (x : Addr) n, x.spot = none → x.add n = ⟨x.block, x.off + n, none⟩ := fun x n hx => by
          unfold Addr.add
          split
          · rename_i e0; subst e0; cases x; simp_all
          · rfl
        rw [h1 a _ hs, h1 _ _ rfl]
      refine ⟨a.block, a.off, by cases a; simp_all, ?_, fun i j r u hr hu => ?_⟩
      · have := World.block_lt_of_cell? W _ h0
        rw [hadd] at this
        exact this
      · rw [List.getElem?_map] at hr
        have hi : i < len0 := by
          rcases Nat.lt_or_ge i len0 with h | h
          · exact h
          · rw [List.getElem?_eq_none (by simpa using h)] at hr; cases hr
        rw [List.getElem?_range hi] at hr
        have hr' : R i = r := by simpa using hr
        subst hr'
        rw [← hadd]
        exact hget i (by omega) j u hu
    · obtain ⟨i, hi, rfl⟩ := List.mem_map.1 hr
      exact ⟨n, (hR i (by have := List.mem_range.1 hi; omega)).2⟩
end
end Go.Proofs.Ytcdeknbbeghljaa
