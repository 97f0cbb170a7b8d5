/- slices.Sorted(maps.Keys(m)) at int keys, in my words. -/
import Derived.Test.YtcdeknbbeghljaaS1
import Derived.Test.YtcdeknbbeghljaaB5
import Derived.Test.YtcdeknbbeghljaaL1
namespace Go.Proofs.Ytcdeknbbeghljaa
open Go.RowKit Go.Maps Go.Sort Go.Shelf

theorem sortsI (m : Nat) : AnyZI.SortsIn Try.prog Try.sortedI_ren Fence.wide m :=
  ⟨fun blk off cap ss W hH hblk hsz => callsIn_wide.2 (AnyM.slices_Sort_int Try.sortI blk off cap ss W hH hblk hsz),
   fun p cap W => callsIn_wide.2 (AnyM.slices_Sort_int_none Try.sortI p cap W)⟩

theorem keys_int (mb : Option Nat) (W : World) : Calls Try.prog 37 #[.map mb] W fun e w' =>
    e = .returned (.func (.func 53) #[] #[.pointer (some ⟨W.heap.size, 0, none⟩)]) ∧ w' = W.alloc (.cells #[.map mb] 46) :=
  (callsIn_wide (n := 5)).1 (AnyZI.keys_in Try.keysI Fence.wide 5 trivial rfl mb W)

set_option maxRecDepth 100000 in
theorem sorted_int {L : List (Value × Value)} (ids : List Int) (b : Nat) (w : World) (h : MapAt Try.prog 3 w b L) (hL : L.map (·.1) = ids.map (Value.int .i64)) (hn : ids.length ≤ 1000000) :
    Calls Try.prog 36 #[.func (.func 53) #[] #[.pointer (some ⟨w.heap.size, 0, none⟩)]] (w.alloc (.cells #[.map (some b)] 46)) fun e w' =>
      ∃ v F, e = .returned v ∧ Own 3 1 v ids.length (intsV (ids.mergeSort fun x y => decide (x ≤ y))) w' F ∧ Upd w w' [] F := by
  have hlen : L.length = ids.length := by have := congrArg List.length hL; simpa using this
  obtain ⟨es, hown, hes, hperm⟩ := h.owns (by unfold maxLen; omega)
  have hik : (intKeys (.map es : DataW Unit)).Perm ids := by
    have h1 := hperm.map Go.intOf
    rw [List.map_map, List.map_map] at h1
    refine h1.trans (.of_eq ?_)
    have hk := h.keyed
    have h2 : L.map (Go.intOf ∘ fun p => (keyOf Try.prog 3 p.1).getD (.bool false)) = (L.map (·.1)).map fun v => Go.intOf ((keyOf Try.prog 3 v).getD (.bool false)) := by rw [List.map_map]; rfl
    rw [h2, hL, List.map_map]
    conv => rhs; rw [← List.map_id ids]
    refine List.map_congr_left fun x hx => ?_
    have hm : Value.int .i64 x ∈ L.map (·.1) := by rw [hL]; exact List.mem_map_of_mem hx
    obtain ⟨p, hp, hpx⟩ := List.mem_map.1 hm
    obtain ⟨l, hl⟩ := hk p hp
    rw [hpx] at hl
    obtain ⟨y, hy, rfl, _⟩ := Go.Maps.keyOf_i64 Try.underlying3 hl
    injection hy with _ hy
    subst hy
    simp only [Function.comp, hl, Option.getD_some, Go.intOf, id]
  have hbl := h.lt
  have hsz : Maps.size (.map es : DataW Unit) ≤ 1000000 := by rw [Maps.size_eq]; omega
  have hseq : SeqGives Fence.wide 2 Try.prog 53 #[.pointer (some ⟨w.heap.size, 0, none⟩)] encZ (fun ss => ss.Perm (intKeys (.map es : DataW Unit))) (Maps.size (.map es : DataW Unit)) (w.alloc (.cells #[.map (some b)] 46)) :=
    AnyZI.keys_gives (ρ := Try.keysI_ren) { Try.keysI with } Fence.wide _ trivial rfl (by omega) w.heap.size b L.length _ _ (by simp) (by simp) (by
      obtain ⟨es, clock, hb, Ft, hs, hD⟩ := hown
      exact ⟨es, clock, (Below.heap_alloc _ _ b hbl).trans hb, Ft, hs, hD⟩)
  have cS := (callsIn_wide (n := 5)).1 (AnyZI.sorted_in Try.sortedI Fence.wide 5 trivial trivial trivial trivial rfl (by omega) (sortsI _) (enters_of Try.func52 (by kernel_rfl) rfl) 53 #[.pointer (some ⟨w.heap.size, 0, none⟩)] trivial (enters_of Try.func53 (by kernel_rfl) rfl) _ _ (by unfold maxLen; omega) (by omega) _ hseq)
  refine cS.mono ?_
  rintro e w' ⟨v, ss, rfl, hS, hrow, -, hb⟩
  have hss := hS.trans hik
  have hms : ss.mergeSort (fun x y => decide (x ≤ y)) = ids.mergeSort (fun x y => decide (x ≤ y)) := mergeSort_of_perm_i hss
  have hrow' : w'.ownsRow 0 3 1 v ids.length (intsV (ids.mergeSort fun x y => decide (x ≤ y))) := by
    rw [← hms, ← hss.length_eq]
    exact ownsRow_base_a hrow (Nat.zero_le _)
  refine ⟨v, _, rfl, ⟨hrow', rfl⟩, (((Mod.refl (fun _ => False) w).alloc _).trans (Mod.of_below (S := fun _ => False) hb) (fun _ _ h => h)).mono (fun _ _ h => h.elim), Own.nodup (show Own _ 1 v _ _ w' _ from ⟨hrow', rfl⟩), fun k hk => .inr ?_⟩
  rcases hrow.2 with ⟨rfl, -⟩ | ⟨gb, cap, cur, rfl, hbase, -⟩
  · simp [Value.ownBlock] at hk
  · simp [Value.ownBlock] at hk
    subst hk
    simp at hbase
    omega
end Go.Proofs.Ytcdeknbbeghljaa
