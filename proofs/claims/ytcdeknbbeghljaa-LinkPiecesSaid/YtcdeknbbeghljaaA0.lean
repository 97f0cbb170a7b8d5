/- Arguments as they come in, opened: bytes, ints. -/
import Derived.Test.YtcdeknbbeghljaaB0
import Derived.ProofKit
import Derived.OpenShut
namespace Go.Proofs.Ytcdeknbbeghljaa
open Go.ChangeShapes Go.WideShapes Go.ChangeAt Go.RowKit

section
variable {H : Type} {enc : TypeId × Value → H} {P : Program} {W : World} {base : Nat} {t e : TypeId}

def toBytes (zs : List Int) : List UInt8 := zs.map fun n => UInt8.ofNat n.toNat
theorem toBytes_bytesV {zs : List Int} (h : ∀ n ∈ zs, (Lit.int .u8 n).wf = true) : bytesV (toBytes zs) = zs.map (Value.int .u8) := by
  unfold bytesV toBytes
  rw [List.map_map]
  refine List.map_congr_left fun n hn => ?_
  have hw := h n hn
  have hb : 0 ≤ n ∧ n < 256 := by
    simp [Lit.wf, IntKind.min, IntKind.max, IntKind.bits, IntKind.signed] at hw
    omega
  simp only [Function.comp]
  congr 1
  rw [UInt8.toNat_ofNat']
  have : n.toNat % 2 ^ 8 = n.toNat := Nat.mod_eq_of_lt (by omega)
  rw [this]
  omega

/-- cells that hold a slice of bytes. -/
theorem trod_bytes {cs : List Value} {x : DataW H × List MemPlace} {sp : Nat → Bool} {hd : Bool} {fuel base : Nat} (ht : P.underlying t = some (.slice e)) (he : P.underlying e = some (.int .u8)) (hc : P.cellsOf e = 1)
    (h : DataW.trod enc P W base sp hd fuel t cs = some x) : ∃ v l, cs = [v] ∧ Rd (· < W.heap.size) W v (bytesV l) := by
  rcases open_ints ht he hc h with ⟨rfl, _⟩ | ⟨a, len, cap, zs, rfl, _, hl, hm, hz, _, hcell, hwf⟩
  · exact ⟨_, [], rfl, Rd.nil _ _⟩
  · have hlen : len ≤ zs.length := by rw [hz]; split <;> omega
    refine ⟨_, toBytes (zs.take len), rfl, some a, cap, ?_, ?_, hm, fun hx => ?_⟩
    · rw [bytesV_length]; unfold toBytes; rw [List.length_map, List.length_take]; congr 1; omega
    · rw [bytesV_length]; unfold toBytes; rw [List.length_map, List.length_take]; omega
    · have hwf' : ∀ n ∈ zs.take len, (Lit.int .u8 n).wf = true := fun n hn => hwf n (List.mem_of_mem_take hn)
      rw [toBytes_bytesV hwf'] at hx
      have hpos : 0 < len := by
        rcases Nat.eq_zero_or_pos len with h0 | h0
        · subst h0; simp at hx
        · exact h0
      have h0 := hcell 0 (by omega)
      have hs : a.spot = none := by
        cases hs : a.spot with
        | none => rfl
        | some s =>
          have : a.add 0 = a := by simp [Addr.add]
          rw [this] at h0
          unfold World.cell? at h0
          rw [hs] at h0
          split at h0 <;> simp at h0
      have hadd : ∀ j, a.add j = ⟨a.block, a.off + j, none⟩ := fun j => by
        unfold Addr.add
        split
        · rename_i e0; cases a; simp_all
        · rfl
      refine ⟨a.block, a.off, by cases a; simp_all, ?_, fun k u hu => ?_⟩
      · have := World.block_lt_of_cell? W _ h0
        simpa [hadd] using this
      · rw [toBytes_bytesV hwf', List.getElem?_map] at hu
        rw [← hadd]
        have hk : k < (zs.take len).length := by
          rcases Nat.lt_or_ge k (zs.take len).length with h | h
          · exact h
          · rw [List.getElem?_eq_none h] at hu; cases hu
        rw [List.length_take] at hk
        rw [hcell k (by omega), ← hu, List.getElem?_take, if_pos (by omega), List.getElem?_eq_getElem (by omega), List.getD_eq_getElem?_getD, List.getElem?_eq_getElem (by omega)]
        rfl

theorem open_bytesR {v : Value} {d : DataW H} {p : List MemPlace} (ht : P.underlying t = some (.slice e)) (he : P.underlying e = some (.int .u8)) (hc : P.cellsOf e = 1) (ok : Value.okWide P W .any base t v)
    (h : DataW.Trod enc P W 0 (fun _ => true) true t v d p) : ∃ l, Rd (· < W.heap.size) W v (bytesV l) := by
  obtain ⟨a0, len, cap, rfl⟩ := okWide_slice ht ok
  obtain ⟨fuel, hf⟩ := h
  obtain ⟨v, l, hv, hr⟩ := trod_bytes ht he hc hf
  simp [Value.cells] at hv
  subst hv
  exact ⟨l, hr⟩

theorem open_intR {v : Value} {d : DataW H} {p : List MemPlace} {k : IntKind} (ht : P.underlying t = some (.int k)) (ok : Value.okWide P W .any base t v)
    (h : DataW.Trod enc P W 0 (fun _ => true) true t v d p) : ∃ x, v = .int k x ∧ (Lit.int k x).wf = true := by
  obtain ⟨x, rfl, _, _, hw⟩ := open_int ht ok h
  exact ⟨x, rfl, hw⟩
end
end Go.Proofs.Ytcdeknbbeghljaa
