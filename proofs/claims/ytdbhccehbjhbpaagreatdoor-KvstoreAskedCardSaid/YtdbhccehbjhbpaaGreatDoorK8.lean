/- slices.Sorted(maps.Keys(m)) at a store's items, in my words. -/
import Derived.Test.YtdbhccehbjhbpaaGreatDoorK7
import Derived.Test.YtdbhccehbjhbpaaGreatDoorK6
import Derived.Test.YtdbhccehbjhbpaaGreatDoorS5

namespace Go.Proofs.YtdbhccehbjhbpaaGreatDoor
open Go.RowKit Go.Maps Go.Sort Go.Shelf

theorem keys_it (mb : Option Nat) (W : World) : Calls Tryz.prog 76 #[.map mb] W fun e w' =>
    e = .returned (.func (.func 132) #[] #[.pointer (some ⟨W.heap.size, 0, none⟩)]) ∧ w' = W.alloc (.cells #[.map mb] 37) :=
  (callsIn_wide (n := 5)).1 (AnyZ.keys_in Tryz.keysI Fence.wide 5 trivial rfl mb W)

set_option maxRecDepth 100000 in
theorem sorted_it {L : List (Value × Value)} (ns : List Disk.Bytes) (b : Nat) (w : World) (h : MapAt Tryz.prog 9 w b L) (hL : L.map (·.1) = ns.map sv) (hln : ∀ n ∈ ns, n.length ≤ 9223372036854775807) (hn : ns.length ≤ 1000000) :
    Calls Tryz.prog 75 #[.func (.func 132) #[] #[.pointer (some ⟨w.heap.size, 0, none⟩)]] (w.alloc (.cells #[.map (some b)] 37)) fun e w' =>
      ∃ v F, e = .returned v ∧ Own 9 1 v ns.length ((ns.mergeSort Disk.leB).map sv) w' F ∧ Upd w w' [] F := by
  have hlen : L.length = ns.length := by have := congrArg List.length hL; simpa using this
  obtain ⟨es, hown, hes, hperm⟩ := h.owns (by unfold maxLen; omega)
  have hik : (Go.strKeys (.map es : DataW Unit)).Perm ns := by
    have h1 := hperm.map Go.strOf
    rw [List.map_map, List.map_map] at h1
    refine h1.trans (.of_eq ?_)
    have h2 : L.map (Go.strOf ∘ fun p => (keyOf Tryz.prog 9 p.1).getD (.bool false)) = (L.map (·.1)).map fun v => Go.strOf ((keyOf Tryz.prog 9 v).getD (.bool false)) := by rw [List.map_map]; rfl
    rw [h2, hL, List.map_map]
    conv => rhs; rw [← List.map_id ns]
    refine List.map_congr_left fun x hx => ?_
    simp only [Function.comp, svKey x (hln x hx), Option.getD_some, Go.strOf, id]
  have hbl := h.lt
  have hsz : Maps.size (.map es : DataW Unit) ≤ 1000000 := by rw [Maps.size_eq]; omega
  have hseq : SeqGives Fence.wide 2 Tryz.prog 132 #[.pointer (some ⟨w.heap.size, 0, none⟩)] encStr (fun ss => ss.Perm (Go.strKeys (.map es : DataW Unit))) (Maps.size (.map es : DataW Unit)) (w.alloc (.cells #[.map (some b)] 37)) :=
    AnyZ.keys_gives (ρ := Tryz.keysI_ren) { Tryz.keysI with } Fence.wide _ trivial rfl (by omega) w.heap.size b L.length _ _ (by simp) (by simp) (by
      obtain ⟨es, clock, hb, Ft, hs, hD⟩ := hown
      exact ⟨es, clock, (Below.heap_alloc _ _ b hbl).trans hb, Ft, hs, hD⟩)
  have cS := (callsIn_wide (n := 5)).1 (AnyZ.sorted_in Tryz.sortedS Fence.wide 5 trivial trivial trivial trivial rfl (by omega) (sortsS _) (enters_of Tryz.func131 (by kernel_rfl) rfl) 132 #[.pointer (some ⟨w.heap.size, 0, none⟩)] trivial (enters_of Tryz.func132 (by kernel_rfl) rfl) _ _ (by unfold maxLen; omega) (by omega) _ hseq)
  refine cS.mono ?_
  rintro e w' ⟨v, ss, rfl, hS, hrow, -, hb⟩
  have hss := hS.trans hik
  have hms : ss.mergeSort (fun x y => decide (x ≤ y)) = ns.mergeSort Disk.leB := mergeSort_of_perm hss
  have hrow' : w'.ownsRow 0 9 1 v ns.length ((ns.mergeSort Disk.leB).map sv) := by
    rw [← hms, ← hss.length_eq]
    exact ownsRow_base_a hrow (Nat.zero_le _)
  refine ⟨v, _, rfl, ⟨hrow', rfl⟩, (((Mod.refl (fun _ => False) w).alloc _).trans (Mod.of_below (S := fun _ => False) hb) (fun _ _ h => h)).mono (fun _ _ h => h.elim), Own.nodup (show Own _ 1 v _ _ w' _ from ⟨hrow', rfl⟩), fun k hk => .inr ?_⟩
  rcases hrow.2 with ⟨rfl, -⟩ | ⟨gb, cap, cur, rfl, hbase, -⟩
  · simp [Value.ownBlock] at hk
  · simp [Value.ownBlock] at hk
    subst hk
    simp at hbase
    omega

end Go.Proofs.YtdbhccehbjhbpaaGreatDoor
