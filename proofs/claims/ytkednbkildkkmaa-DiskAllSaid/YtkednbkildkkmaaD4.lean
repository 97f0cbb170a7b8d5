/- disk: the contract of files.does. -/
import Derived.Test.YtkednbkildkkmaaD3
namespace Go.Proofs.Ytkednbkildkkmaa
open Go.RowKit
open Disk

set_option maxRecDepth 100000 in
set_option maxHeartbeats 4000000 in
theorem fdoes_drop {w0 w : World} {A B : List Res} {bm : Nat} {f : Files} (h : Held w0 w (A ++ rFiles bm f :: B)) (name : Bytes) (at_ : Int) (u : Value) (hn : name.length ≤ 9223372036854775807) :
    Calls Try.prog 40 #[.map (some bm), .agg #[.int .i64 2, sv name, .int .i64 at_, u]] w fun e w' => e = .returned (.tuple #[]) ∧ Held w0 w' (A ++ rFiles bm (Dict.del f name) :: B) := by
  have hok := h.files_ok
  have h0 := (h.block 72 #[.int .i64 2, sv name, .int .i64 at_, u])
  obtain ⟨ys, hp, h1⟩ := Held.files_open (A := rBlk w.heap.size 72 #[.int .i64 2, sv name, .int .i64 at_, u] :: A) h0
  cases hg : Dict.get f name with
  | none =>
    obtain ⟨hlk, hno⟩ := h1.files_none hp hn hg
    have hlk' : _ := hlk false
    have HD := hid (Held.map_nodel strKeyed Try.underlying48 h1 (svKey name hn) hno 9)
    have HG := hid (And.intro hp hg)
    clear h h0 h1 hlk hno hp hg
    go_enter Try.func40, Try.ntmps40
    go_wp2_with (first
      | (at_delete; refine wpList_delete_ex _ rfl _ _ 48 9 rfl _ _ rfl rfl _ HD.out ?c2))
    case c2 =>
      intro w' hPost
      have HQ := hid hPost
      clear hPost
      go_wp2
      refine bodyPost_ret (results_none rfl _ _ _) rfl ?_
      refine ⟨rfl, ?_⟩
      rw [del_none HG.out.2]
      exact Held.files_close HG.out.1 (Held.drop (l1 := []) HQ.out)
  | some x =>
    obtain ⟨ys1, ys2, b, s, rfl, hlk, h2⟩ := h1.files_some hp hn hg
    have hlk' : _ := hlk false
    have hpm : (filesL (ys1 ++ ((name, x), .pointer (some ⟨b, 0, none⟩)) :: ys2)).Perm ((sv name, .pointer (some ⟨b, 0, none⟩)) :: filesL (ys1 ++ ys2)) := by
      unfold filesL
      rw [List.map_append, List.map_cons, List.map_append]
      exact List.perm_middle
    have HD := hid (Held.map_del strKeyed Try.underlying48 h2 (svKey name hn) hpm 9)
    have HG := hid (And.intro hp hok)
    clear h h0 h1 h2 hlk hp hok hg hpm
    go_enter Try.func40, Try.ntmps40
    go_wp2_with (first
      | (at_delete; refine wpList_delete_ex _ rfl _ _ 48 9 rfl _ _ rfl rfl _ HD.out ?c2))
    case c2 =>
      intro w' hPost
      have HQ := hid hPost
      clear hPost
      go_wp2
      refine bodyPost_ret (results_none rfl _ _ _) rfl ?_
      refine ⟨rfl, ?_⟩
      have g1 := Held.drop (l1 := []) HQ.out
      have g2 := Held.drop (l1 := A ++ [rMapB Try.prog 9 bm (filesL (ys1 ++ ys2)), rBig fileLoc ys1]) (R := rBlk b 77 #[s]) (by simpa using g1)
      have g3 := Held.drop (l1 := A ++ [rMapB Try.prog 9 bm (filesL (ys1 ++ ys2)), rBig fileLoc ys1]) (R := rBytes s x) (by simpa using g2)
      have g4 := Held.big_join (l1 := A ++ [rMapB Try.prog 9 bm (filesL (ys1 ++ ys2))]) fileLoc (by simpa using g3)
      refine Held.files_close (ys := ys1 ++ ys2) ?_ (by simpa using g4)
      have hp := HG.out.1
      rw [List.map_append, List.map_cons] at hp
      rw [List.map_append]
      exact del_split hp HG.out.2

set_option maxRecDepth 100000 in
set_option maxHeartbeats 4000000 in
theorem fdoes_cut {w0 w : World} {A B : List Res} {bm : Nat} {f : Files} (h : Held w0 w (A ++ rFiles bm f :: B)) (name : Bytes) (k : Nat) (u : Value) (hn : name.length ≤ 9223372036854775807) (hk : k ≤ 1073741824) :
    Calls Try.prog 40 #[.map (some bm), .agg #[.int .i64 1, sv name, .int .i64 k, u]] w fun e w' => e = .returned (.tuple #[]) ∧
      Held w0 w' (A ++ rFiles bm (match Dict.get f name with | none => f | some x => Dict.put f name (x.take k)) :: B) := by
  have hok := h.files_ok
  have h0 := (h.block 72 #[.int .i64 1, sv name, .int .i64 k, u])
  obtain ⟨ys, hp, h1⟩ := Held.files_open (A := rBlk w.heap.size 72 #[.int .i64 1, sv name, .int .i64 k, u] :: A) h0
  cases hg : Dict.get f name with
  | none =>
    obtain ⟨hlk, hno⟩ := h1.files_none hp hn hg
    have hlk' : _ := hlk false
    have HG := hid (And.intro hp h1)
    clear h h0 h1 hlk hno hp hg
    go_enter Try.func40, Try.ntmps40
    go_wp2_with fail
    refine bodyPost_ret (results_none rfl _ _ _) rfl ?_
    exact ⟨rfl, Held.files_close HG.out.1 (Held.drop (l1 := []) HG.out.2)⟩
  | some x =>
    obtain ⟨ys1, ys2, b, s, rfl, hlk, h2⟩ := h1.files_some hp hn hg
    have hlk' : _ := hlk false
    have hb := Held.blk (l1 := rBlk w.heap.size 72 #[.int .i64 1, sv name, .int .i64 k, u] :: (A ++ [rMapB Try.prog 9 bm (filesL (ys1 ++ ((name, x), .pointer (some ⟨b, 0, none⟩)) :: ys2)), rBig fileLoc ys1])) (by simpa using h2)
    obtain ⟨sA, sc, rfl, q1, q2⟩ := Held.form (l1 := rBlk w.heap.size 72 #[.int .i64 1, sv name, .int .i64 k, u] :: (A ++ [rMapB Try.prog 9 bm (filesL (ys1 ++ ((name, x), .pointer (some ⟨b, 0, none⟩)) :: ys2)), rBig fileLoc ys1, rBlk b 77 #[s]])) (by simpa using h2)
    have hc := hb.cell (i := 0) rfl
    have hfz := hb.frozen 0
    have HG := hid (And.intro hp (And.intro hok h2))
    clear h h0 h1 h2 hlk hp hok hg hb
    go_enter Try.func40, Try.ntmps40
    go_wp2_with fail
    go_region
    go_wp2
    all_goals
      refine bodyPost_ret (results_none rfl _ _ _) rfl ?_
      refine ⟨rfl, ?_⟩
      obtain ⟨hp, hok, h2⟩ := HG.out
      have g1 := Held.store (l1 := A ++ [rMapB Try.prog 9 bm (filesL (ys1 ++ ((name, x), .pointer (some ⟨b, 0, none⟩)) :: ys2)), rBig fileLoc ys1]) (by simpa using Held.drop (l1 := []) h2) 0
    · rw [List.take_of_length_le (by omega)]
      exact (Held.files_back hp (by simpa using g1 (.slice sA x.length sc)) hok).step ((Mod.refl _ _).drew)
    · have g2 := Held.bytes_take (l1 := A ++ [rMapB Try.prog 9 bm (filesL (ys1 ++ ((name, x), .pointer (some ⟨b, 0, none⟩)) :: ys2)), rBig fileLoc ys1, rBlk b 77 #[.slice sA k sc]]) (by simpa using g1 (.slice sA k sc)) (k := k) (by omega)
      exact (Held.files_back hp (by simpa using g2) hok).step ((Mod.refl _ _).drew)
end Go.Proofs.Ytkednbkildkkmaa
