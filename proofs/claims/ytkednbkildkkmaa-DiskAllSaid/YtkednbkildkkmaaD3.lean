/- disk: files among held things: look-up, one file in focus, a file more, a file less. -/
import Derived.Test.YtkednbkildkkmaaD11
import Derived.Test.YtkednbkildkkmaaD2
import Derived.Test.YtkednbkildkkmaaB8
namespace Go.Proofs.Ytkednbkildkkmaa
open Go.RowKit
open Go.ChangeMaps (setBlock)
open Go.Maps (Keyed)
open Disk

section
variable {w0 w : World} {A B : List Res} {bm : Nat} {f : Files} {ys : List ((Bytes × Bytes) × Value)}

def filesL (ys : List ((Bytes × Bytes) × Value)) : List (Value × Value) := ys.map fun y => (sv y.1.1, y.2)

theorem Held.files_open (h : Held w0 w (A ++ rFiles bm f :: B)) : ∃ ys, (ys.map (·.1)).Perm f ∧ Held w0 w (A ++ rMapB Try.prog 9 bm (filesL ys) :: rBig fileLoc ys :: B) := h.open_some
theorem Held.files_close (hp : (ys.map (·.1)).Perm f) (h : Held w0 w (A ++ rMapB Try.prog 9 bm (filesL ys) :: rBig fileLoc ys :: B)) : Held w0 w (A ++ rFiles bm f :: B) := Held.close_some ys hp h

theorem Held.files_ok (h : Held w0 w (A ++ rFiles bm f :: B)) : Dict.Ok f := by
  obtain ⟨ys, hp, h⟩ := h.files_open
  have hn := h.mapAt.nodup
  unfold filesL at hn
  rw [List.map_map] at hn
  refine Dict.Ok.perm (f := ys.map (·.1)) ?_ hp
  unfold Dict.Ok
  rw [List.map_map]
  exact (List.pairwise_map.1 (by rw [List.map_map]; exact hn : ((ys.map ((·.1) ∘ (·.1))).map sv).Nodup)).imp fun hne e => hne (congrArg sv e)
theorem Held.files_perm {g : Files} (h : Held w0 w (A ++ rFiles bm f :: B)) (hp : f.Perm g) : Held w0 w (A ++ rFiles bm g :: B) := by
  obtain ⟨ys, hq, h⟩ := h.files_open
  exact Held.files_close (hq.trans hp) h

/-- no file of that name. -/
theorem Held.files_none (h : Held w0 w (A ++ rMapB Try.prog 9 bm (filesL ys) :: B)) (hp : (ys.map (·.1)).Perm f) {n : Bytes} (hn : n.length ≤ 9223372036854775807) (hg : Dict.get f n = none) :
    (∀ ok, (Instr.lookup 48 (.map (some bm)) (sv n) ok).run Try.prog w = .ok (if ok then .tuple #[.pointer none, .bool false] else .pointer none) w) ∧ ∀ p ∈ filesL ys, p.1 ≠ sv n := by
  have hno : ∀ p ∈ filesL ys, p.1 ≠ sv n := by
    intro p hp' e
    obtain ⟨y, hy, rfl⟩ := List.mem_map.1 hp'
    exact get_none hg y.1 (hp.mem_iff.1 (List.mem_map.2 ⟨y, hy, rfl⟩)) (sv_inj e)
  exact ⟨fun ok => h.mapAt.lookup_miss strKeyed Try.underlying48 (zeroFilePtr w) (svKey n hn) hno ok, hno⟩

/-- a file of that name: it is the one in focus. -/
theorem Held.files_some (h : Held w0 w (A ++ rMapB Try.prog 9 bm (filesL ys) :: rBig fileLoc ys :: B)) (hp : (ys.map (·.1)).Perm f) {n x : Bytes} (hn : n.length ≤ 9223372036854775807) (hg : Dict.get f n = some x) :
    ∃ ys1 ys2 b s, ys = ys1 ++ ((n, x), .pointer (some ⟨b, 0, none⟩)) :: ys2 ∧ (∀ ok, (Instr.lookup 48 (.map (some bm)) (sv n) ok).run Try.prog w = .ok (if ok then .tuple #[.pointer (some ⟨b, 0, none⟩), .bool true] else .pointer (some ⟨b, 0, none⟩)) w) ∧
      Held w0 w (A ++ rMapB Try.prog 9 bm (filesL ys) :: rBig fileLoc ys1 :: rBlk b 77 #[s] :: rBytes s x :: rBig fileLoc ys2 :: B) := by
  have hm : (n, x) ∈ ys.map (·.1) := hp.mem_iff.2 (get_mem hg)
  obtain ⟨y, hy, hyx⟩ := List.mem_map.1 hm
  obtain ⟨ys1, ys2, rfl⟩ := List.append_of_mem hy
  obtain ⟨p, v⟩ := y
  simp only at hyx
  subst hyx
  have hlk := fun ok => h.mapAt.lookup_hit (v := v) strKeyed Try.underlying48 (svKey n hn) (by unfold filesL; exact List.mem_map.2 ⟨((n, x), v), by simp, rfl⟩) ok
  have h1 := Held.big_split (l1 := A ++ [rMapB Try.prog 9 bm (filesL (ys1 ++ ((n, x), v) :: ys2))]) fileLoc (by simpa using h)
  have h2 := Held.big_uncons (l1 := A ++ [rMapB Try.prog 9 bm (filesL (ys1 ++ ((n, x), v) :: ys2)), rBig fileLoc ys1]) fileLoc (by simpa using h1)
  obtain ⟨⟨b, s⟩, hv, h3⟩ := Held.open_some (l1 := A ++ [rMapB Try.prog 9 bm (filesL (ys1 ++ ((n, x), v) :: ys2)), rBig fileLoc ys1]) (Rs' := fun a : Nat × Value => [rBlk a.1 77 #[a.2], rBytes a.2 x]) (q := fun a => v = .pointer (some ⟨a.1, 0, none⟩)) h2
  simp only at hv
  subst hv
  exact ⟨ys1, ys2, b, s, rfl, hlk, by simpa using h3⟩

/-- the one in focus goes back, with other bytes. -/
theorem Held.files_back {ys1 ys2 : List ((Bytes × Bytes) × Value)} {n x y : Bytes} {b : Nat} {s : Value} (hp : ((ys1 ++ ((n, x), .pointer (some ⟨b, 0, none⟩)) :: ys2).map (·.1)).Perm f)
    (h : Held w0 w (A ++ rMapB Try.prog 9 bm (filesL (ys1 ++ ((n, x), .pointer (some ⟨b, 0, none⟩)) :: ys2)) :: rBig fileLoc ys1 :: rBlk b 77 #[s] :: rBytes s y :: rBig fileLoc ys2 :: B)) (hf : Dict.Ok f) :
    Held w0 w (A ++ rFiles bm (Dict.put f n y) :: B) := by
  have h1 := Held.close_some (l1 := A ++ [rMapB Try.prog 9 bm (filesL (ys1 ++ ((n, x), .pointer (some ⟨b, 0, none⟩)) :: ys2)), rBig fileLoc ys1]) (l2 := rBig fileLoc ys2 :: B) (Rs' := fun a : Nat × Value => [rBlk a.1 77 #[a.2], rBytes a.2 y]) (q := fun a : Nat × Value => Value.pointer (some ⟨b, 0, none⟩) = .pointer (some ⟨a.1, 0, none⟩)) (b, s) rfl (by simpa using h)
  have h2 := Held.big_cons (l1 := A ++ [rMapB Try.prog 9 bm (filesL (ys1 ++ ((n, x), .pointer (some ⟨b, 0, none⟩)) :: ys2)), rBig fileLoc ys1]) fileLoc (x := ((n, y), .pointer (some ⟨b, 0, none⟩))) h1
  have h3 := Held.big_join (l1 := A ++ [rMapB Try.prog 9 bm (filesL (ys1 ++ ((n, x), .pointer (some ⟨b, 0, none⟩)) :: ys2))]) fileLoc (by simpa using h2)
  refine Held.files_close (ys := ys1 ++ ((n, y), .pointer (some ⟨b, 0, none⟩)) :: ys2) ?_ ?_
  · rw [List.map_append, List.map_cons] at hp ⊢
    exact put_split hp hf y
  · have : filesL (ys1 ++ ((n, x), .pointer (some ⟨b, 0, none⟩)) :: ys2) = filesL (ys1 ++ ((n, y), .pointer (some ⟨b, 0, none⟩)) :: ys2) := by simp [filesL]
    rw [this] at h3
    simpa using h3
end
end Go.Proofs.Ytkednbkildkkmaa
