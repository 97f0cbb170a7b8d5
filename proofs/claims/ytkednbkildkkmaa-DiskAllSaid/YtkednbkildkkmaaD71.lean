/- disk: the map of what is held. -/
import Derived.Test.YtkednbkildkkmaaD6
namespace Go.Proofs.Ytkednbkildkkmaa
open Go.RowKit
open Disk

section
variable {w0 w : World} {A B : List Res} {bm : Nat} {h : Dict Nat}
def heldL (h : Dict Nat) : List (Value × Value) := h.map fun x => (sv x.1, .int .i64 x.2)
theorem Held.held_at (hh : Held w0 w (A ++ rHeld bm h :: B)) : MapAt Try.prog 9 w bm (heldL h) := Held.mapAt hh
theorem Held.held_ok (hh : Held w0 w (A ++ rHeld bm h :: B)) : Dict.Ok h := by
  have hn := hh.held_at.nodup
  unfold heldL at hn
  rw [List.map_map] at hn
  unfold Dict.Ok
  exact (List.pairwise_map.1 (by rw [List.map_map]; exact hn : ((h.map (·.1)).map sv).Nodup)).imp fun hne e => hne (congrArg sv e)
theorem Held.held_perm {g : Dict Nat} (hh : Held w0 w (A ++ rHeld bm h :: B)) (hp : h.Perm g) : Held w0 w (A ++ rHeld bm g :: B) := Held.map_perm hh (hp.map _)

theorem Held.held_lookup (hh : Held w0 w (A ++ rHeld bm h :: B)) {n : Bytes} (hn : n.length ≤ 9223372036854775807) :
    (Instr.lookup 50 (.map (some bm)) (sv n) false).run Try.prog w = .ok (.int .i64 ((Dict.get h n).getD 0 : Nat)) w := by
  cases hg : Dict.get h n with
  | none =>
    have := hh.held_at.lookup_miss strKeyed Try.underlying50 (zeroInt w) (svKey n hn) (fun p hp e => by
      obtain ⟨x, hx, rfl⟩ := List.mem_map.1 hp
      exact get_none hg x hx (sv_inj e)) false
    simpa using this
  | some k =>
    have := hh.held_at.lookup_hit (v := .int .i64 k) strKeyed Try.underlying50 (svKey n hn) (List.mem_map.2 ⟨(n, k), get_mem hg, rfl⟩) false
    simpa using this

theorem Held.held_put (hh : Held w0 w (A ++ rHeld bm h :: B)) {n : Bytes} (hn : n.length ≤ 9223372036854775807) (k : Nat) :
    ∃ w', (Instr.mapUpdate 50 (.map (some bm)) (sv n) (.int .i64 k)).run Try.prog w = .ok () w' ∧ Held w0 w' (A ++ rHeld bm (Dict.put h n k) :: B) := by
  have hok := hh.held_ok
  cases hg : Dict.get h n with
  | none =>
    obtain ⟨w', h1, h2⟩ := Held.map_new strKeyed Try.underlying50 (L := heldL h) hh (svKey n hn) (fun p hp e => by
      obtain ⟨x, hx, rfl⟩ := List.mem_map.1 hp
      exact get_none hg x hx (sv_inj e)) (.int .i64 k)
    refine ⟨w', h1, ?_⟩
    rw [put_new hg]
    exact h2
  | some k0 =>
    obtain ⟨l1, l2, hs⟩ := List.append_of_mem (get_mem hg)
    have hp : (heldL h).Perm ((sv n, .int .i64 k0) :: heldL (l1 ++ l2)) := by
      unfold heldL
      rw [hs, List.map_append, List.map_cons, List.map_append]
      exact List.perm_middle
    obtain ⟨w', h1, h2⟩ := Held.map_old strKeyed Try.underlying50 (L := heldL h) hh (svKey n hn) hp (.int .i64 k)
    refine ⟨w', h1, ?_⟩
    have h3 : Held w0 w' (A ++ rHeld bm ((n, k) :: (l1 ++ l2)) :: B) := h2
    refine h3.held_perm ?_
    unfold Dict.put
    exact (del_split (.of_eq hs.symm) hok).cons _

theorem Held.held_del (hh : Held w0 w (A ++ rHeld bm h :: B)) {n : Bytes} (hn : n.length ≤ 9223372036854775807) :
    ∃ w', (∀ ty, (Builtin.delete_ #[50, 9] ty #[.map (some bm), sv n]).run Try.prog w = .ok (.tuple #[]) w') ∧ Held w0 w' (A ++ rHeld bm (Dict.del h n) :: B) := by
  have hok := hh.held_ok
  cases hg : Dict.get h n with
  | none =>
    obtain ⟨w', h1, h2⟩ := Held.map_nodel strKeyed Try.underlying50 (L := heldL h) hh (svKey n hn) (fun p hp e => by
      obtain ⟨x, hx, rfl⟩ := List.mem_map.1 hp
      exact get_none hg x hx (sv_inj e)) 9
    refine ⟨w', h1, ?_⟩
    rw [del_none hg]
    exact h2
  | some k0 =>
    obtain ⟨l1, l2, hs⟩ := List.append_of_mem (get_mem hg)
    have hp : (heldL h).Perm ((sv n, .int .i64 k0) :: heldL (l1 ++ l2)) := by
      unfold heldL
      rw [hs, List.map_append, List.map_cons, List.map_append]
      exact List.perm_middle
    obtain ⟨w', h1, h2⟩ := Held.map_del strKeyed Try.underlying50 (L := heldL h) hh (svKey n hn) hp 9
    refine ⟨w', h1, ?_⟩
    have h3 : Held w0 w' (A ++ rHeld bm (l1 ++ l2) :: B) := h2
    exact h3.held_perm (del_split (.of_eq hs.symm) hok)
end
end Go.Proofs.Ytkednbkildkkmaa
