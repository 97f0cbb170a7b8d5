/- A map, in the words of the kit's contracts on maps.Keys (ownsMap). Nothing of the program. -/
import Derived.Test.YtcdeknbbeghljaaB1
import Derived.Maps.Range
namespace Go.Proofs.Ytcdeknbbeghljaa
open Go.RowKit
open Go.Maps (Keyed)

def anyElem : Value → Option (DataW Unit × List MemPlace) := fun _ => some (.lit (.bool true), [])

theorem MapAt.owns {P : Program} {kt : TypeId} {w : World} {b : Nat} {L : List (Value × Value)} (h : MapAt P kt w b L) (hl : L.length ≤ maxLen) :
    ∃ es : List (Lit × DataW Unit), w.ownsMap P kt anyElem b L.length (.map es) ∧ es.length = L.length ∧ (es.map (·.1)).Perm (L.map fun p => (keyOf P kt p.1).getD (.bool false)) := by
  obtain ⟨es0, clk, hb, hi⟩ := h
  have hsz : es0.size = L.length := by
    have := hi.perm.length_eq
    simpa [entL] using this
  refine ⟨((es0.toList.map (Go.WideElems.rg P kt anyElem)).foldr DataW.insert []), ⟨es0, clk, hb, ⟨by omega, ⟨hi.young, hi.stamps, hi.apart⟩, fun x hx => ?_⟩, by omega, rfl⟩, ?_, ?_⟩
  · obtain ⟨l, hk⟩ := hi.keyed x hx
    exact ⟨_, by unfold Go.WideElems.rd anyElem; rw [hk]; rfl⟩
  · rw [Go.length_sorted]; simpa using hsz
  · refine ((Go.WideShapes.sorted_perm _).map _).trans ?_
    have h1 := (hi.perm.map fun p => (keyOf P kt p.1).getD (.bool false))
    refine List.Perm.trans (.of_eq ?_) h1
    unfold entL
    rw [List.map_map, List.map_map]
    refine List.map_congr_left fun x hx => ?_
    obtain ⟨l, hk⟩ := hi.keyed x hx
    simp only [Function.comp, Go.WideElems.rg, Go.WideElems.rd, anyElem, hk, Option.bind_some, Option.map_some, Option.getD_some]
end Go.Proofs.Ytcdeknbbeghljaa
