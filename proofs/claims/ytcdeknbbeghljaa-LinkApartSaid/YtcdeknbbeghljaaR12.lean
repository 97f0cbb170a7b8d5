/- link: Drop. -/
import Derived.Test.YtcdeknbbeghljaaR7
import Derived.Test.YtcdeknbbeghljaaR11
import Derived.BigQuiet
namespace Go.Proofs.Ytcdeknbbeghljaa
open Go.RowKit
open Link

theorem contains_end (c : Conn) (node : Int) : ([c.a, c.b] : List Int).contains node = !(c.end_ node == -1) := by
  unfold Conn.end_
  by_cases h1 : c.a = node
  · simp [h1]
  · by_cases h2 : c.b = node
    · simp [h1, h2]
    · have h1' : ¬ node = c.a := fun h => h1 h.symm
      have h2' : ¬ node = c.b := fun h => h2 h.symm
      simp [h1, h2, h1', h2']

set_option maxRecDepth 100000 in
theorem drop1_any (w : World) (id node : Int) (b nb : Nat) (c : Conn) (s0 s1 : Value) (hb : Blk w b 73 (connCells c s0 s1)) (hc : w.cell? ⟨nb, 0, none⟩ = some (.int .i64 node)) :
    Calls Try.prog 39 #[.int .i64 id, .pointer (some ⟨b, 0, none⟩), .pointer (some ⟨nb, 0, none⟩)] w fun e w' => e = .returned (.bool (!(c.end_ node == -1))) ∧ ∃ m, w' = w.drewN m := by
  have hr : ∀ q, Rd (· = b) (w.drewN q) (.slice (some ⟨b, 0, none⟩) 2 2) (intsV [c.a, c.b]) := fun q => ⟨_, 2, rfl, Nat.le_refl _, by simp [maxLen], fun _ => ⟨b, 0, rfl, rfl, fun k u hu => by
    rw [Nat.zero_add]
    refine (hb.drewN q).cell ?_
    match k with
    | 0 => simpa [connCells, intsV] using hu
    | 1 => simpa [connCells, intsV] using hu
    | k + 2 => simp [intsV] at hu⟩⟩
  have CC := hid (fun q => show Calls Try.prog 20 #[.slice (some ⟨b, 0, none⟩) 2 2, .int .i64 node] (w.drewN q) fun e w' => e = .returned (.bool (!(c.end_ node == -1))) ∧ w' = w.drewN q from (contains_any (· = b) (w.drewN q) _ [c.a, c.b] node (hr q)).mono fun e w' h => ⟨by rw [← contains_end]; exact h.1, h.2.symm⟩)
  clear hr hb
  go_enter Try.func39, Try.ntmps39
  go_wp2_with fail
  go_quiet (first | (go_at_call 20; exact Calls.quiet_of_same (CC.out _)))
  go_wp2_with fail
  go_ret
  exact ⟨rfl, _, rfl⟩

section
variable {w0 w : World} {B : List Res}
theorem conn_at {ys : Ys} (h : Held w0 w (rBig connLoc ys :: B)) {y : (Int × Conn) × Value} (hy : y ∈ ys) : ∃ b s0 s1, y.2 = .pointer (some ⟨b, 0, none⟩) ∧ Blk w b 73 (connCells y.1.2 s0 s1) := by
  obtain ⟨l1, l2, rfl⟩ := List.append_of_mem hy
  have h1 := Held.big_split (l1 := []) connLoc h
  have h2 := Held.big_uncons (l1 := [rBig connLoc l1]) connLoc h1
  obtain ⟨F, hF⟩ := Held.get (l1 := [rBig connLoc l1]) h2
  obtain ⟨b, s0, s1, F0, F1, hv, hb, -⟩ := (show ConnR y.1.2 y.2 w F from hF)
  exact ⟨b, s0, s1, hv, hb⟩
theorem IterAt.left {P : Program} {kt : TypeId} {w : World} {r b : Nat} {L todo : List (Value × Value)} (h : IterAt P kt w r b L todo) : w.rangeLeft b r = todo.length := by
  obtain ⟨es, clk, since, seen, c0, hb, hr, _, hl, _⟩ := h
  unfold World.rangeLeft
  rw [hb, hr]
  have := hl.length_eq
  simpa [entL] using this
def NextPost (w0 : World) (B : List Res) (it bm : Nat) (L todo : List (Value × Value)) (k v : Value) (w' : World) : Prop :=
  ∃ todo', todo.Perm ((k, v) :: todo') ∧ (k, v) ∈ L ∧ (Instr.entry (.pointer (some ⟨it, 0, none⟩))).run Try.prog w' = .ok (.tuple #[k, v]) w' ∧ Held w0 w' (rIter Try.prog 3 it bm L todo' :: B)
theorem Held.next0 {it bm : Nat} {L todo : List (Value × Value)} (h : Held w0 w (rIter Try.prog 3 it bm L todo :: B)) : ∀ ty,
    (todo = [] ∧ (Instr.next (.pointer (some ⟨it, 0, none⟩)) false ty).run Try.prog w = .ok (.tuple #[.bool false]) w) ∨ ∃ k v w', (Instr.next (.pointer (some ⟨it, 0, none⟩)) false ty).run Try.prog w = .ok (.tuple #[.bool true, k, v]) w' ∧ NextPost w0 B it bm L todo k v w' :=
  fun ty => Held.next (A := []) h ty
end

def keepY (node : Int) (y : (Int × Conn) × Value) : Bool := y.1.2.end_ node == -1
def SweepAt (w0 : World) (B : List Res) (it bm : Nat) (node : Int) (ys : Ys) (w : World) : Prop :=
  ∃ ys' todo, Swept ys ys' (keepY node) todo ∧ Held w0 w (rIter Try.prog 3 it bm (ys'.map pairOf) todo :: rBig connLoc ys' :: B)
def DelPost (w0 : World) (R : List Res) (w' : World) : Prop := Held w0 w' R

set_option maxRecDepth 100000 in
set_option maxHeartbeats 2000000 in
theorem delete_func {w0 w : World} {B : List Res} {bm nb : Nat} {node : Int} {ys : Ys} (h : Held w0 w (rMapB Try.prog 3 bm (ys.map pairOf) :: rBig connLoc ys :: rBlk nb 3 #[.int .i64 node] :: B)) (hn : (ys.map (·.1.1)).Nodup) (hwf : ∀ y ∈ ys, (Lit.int .i64 y.1.1).wf = true) :
    Calls Try.prog 38 #[.map (some bm), .func (.func 39) #[] #[.pointer (some ⟨nb, 0, none⟩)]] w fun e w' => e = .returned (.tuple #[]) ∧ Held w0 w' (rMapB Try.prog 3 bm ((ys.filter (keepY node)).map pairOf) :: rBig connLoc (ys.filter (keepY node)) :: rBlk nb 3 #[.int .i64 node] :: B) := by
  obtain ⟨w1, hr1, h1⟩ := Held.range (A := []) Try.underlying46 h
  have H1 := hid (show SweepAt w0 (rBlk nb 3 #[.int .i64 node] :: B) w.heap.size bm node ys w1 from ⟨ys, ys.map pairOf, Swept.start hn, h1⟩)
  have HN := hid (And.intro hn hwf)
  clear h h1 hn hwf
  generalize w.heap.size = it at *
  go_enter Try.func38, Try.ntmps38
  go_wp2_with fail
  clear hr1
  go_loopw [4, 5] (fun _ _ wr => SweepAt w0 (rBlk nb 3 #[.int .i64 node] :: B) it bm node ys wr) (fun _ _ wr => wr.rangeLeft bm it)
  case atStart => exact H1.out
  case round =>
    obtain ⟨ys', todo, hs, hh⟩ := hrel
    have HX := hid hh.next0
    have l1 := (Held.iterAt (A := []) hh).left
    have HI := hid (And.intro hs (And.intro hh l1))
    clear hs hh l1
    go_wp2_with (at_next; refine wpList_next_ex _ rfl _ rfl _ rfl _ _ HX.out ?c0 ?c1)
    case c0 =>
      rintro rfl
      obtain ⟨hs, hh, -⟩ := HI.out
      have hd := hs.done
      subst hd
      have HE := hid (Held.range_end (A := []) hh)
      clear hs hh HI HX
      go_wp2_with fail
      go_end0
      exact ⟨rfl, HE.out⟩
    case c1 =>
      intro k v w2 hP
      obtain ⟨todo', hpm, hmem, hen, h2⟩ := hP
      obtain ⟨hs, -, l1⟩ := HI.out
      obtain ⟨y, hy, hkv⟩ := List.mem_map.1 hmem
      unfold pairOf at hkv
      injection hkv with e1 e2
      subst e1 e2
      have hs1 := hs.perm hpm
      obtain ⟨cb, s0, s1, hv, hb⟩ := conn_at (Held.pull1 h2) hy
      have hc : w2.cell? ⟨nb, 0, none⟩ = some (.int .i64 node) := (Held.blk0 (Held.pull2 h2)).cell rfl
      have CD := hid (drop1_any w2 y.1.1 node cb nb y.1.2 s0 s1 hb hc)
      obtain ⟨ya, yb, hab⟩ := List.append_of_mem hy
      have hwfy := HN.out.2 y (hs.sub.subset hy)
      have HL := hid (show todo'.length < wr.rangeLeft bm it by rw [l1, hpm.length_eq]; simp)
      cases hq : keepY node y with
      | true =>
        have hq' : (y.1.2.end_ node == -1) = true := hq
        rw [hq'] at CD
        have HK := hid (fun m => show SweepAt w0 (rBlk nb 3 #[.int .i64 node] :: B) it bm node ys (w2.drewN m) ∧ (w2.drewN m).rangeLeft bm it = todo'.length from ⟨⟨ys', todo', hs1.keep HN.out.1 hy hq, h2.drewN m⟩, (Held.iterAt (A := []) (h2.drewN m)).left⟩)
        rw [hv] at hen ⊢
        clear hs hs1 h2 hmem hpm hb hc hy hab hwfy hv hq hq' HI HX l1
        generalize y.1.1 = i at *
        go_wp2_with fail
        refine CD.out.mono ?_
        rintro e w3 ⟨rfl, m, rfl⟩
        go_wp2_with fail
        exact ⟨(HK.out m).1, by show (w2.drewN m).rangeLeft bm it < _; rw [(HK.out m).2]; exact HL.out⟩
      | false =>
        have hq' : (y.1.2.end_ node == -1) = false := hq
        rw [hq'] at CD
        subst hab
        have hs2 := hs1.del HN.out.1 hq
        have hdel := fun m => Held.iter_del (A := []) (L0 := (ya ++ yb).map pairOf) intKeyed Try.underlying46 (h2.drewN m) (k := .int .i64 y.1.1) (v0 := y.2) (intKey y.1.1 hwfy) (by rw [List.map_append, List.map_append, List.map_cons]; exact List.perm_middle) (fun p hp e => (List.nodup_cons.1 hs1.apart).1 (List.mem_map.2 ⟨p, hp, e⟩)) 3
        have HD := hid (fun m => show ∃ w', (∀ ty, (Builtin.delete_ #[46, 3] ty #[.map (some bm), .int .i64 y.1.1]).run Try.prog (w2.drewN m) = .ok (.tuple #[]) w') ∧ DelPost w0 (rIter Try.prog 3 it bm ((ya ++ yb).map pairOf) todo' :: rBig connLoc (ya ++ y :: yb) :: rBlk nb 3 #[.int .i64 node] :: B) w' from hdel m)
        have HK := hid (fun w' (hp : DelPost w0 (rIter Try.prog 3 it bm ((ya ++ yb).map pairOf) todo' :: rBig connLoc (ya ++ y :: yb) :: rBlk nb 3 #[.int .i64 node] :: B) w') => show SweepAt w0 (rBlk nb 3 #[.int .i64 node] :: B) it bm node ys w' ∧ w'.rangeLeft bm it = todo'.length from
          ⟨⟨ya ++ yb, todo', hs2, Held.big_sub (l1 := [_]) connLoc (List.Sublist.append (List.Sublist.refl ya) (List.sublist_cons_self y yb)) hp⟩, (Held.iterAt (A := []) hp).left⟩)
        rw [hv] at hen ⊢
        clear hs hs1 hs2 h2 hmem hpm hb hc hy hwfy hv hq hq' HI HX l1 hdel
        generalize y.1.1 = i at *
        go_wp2_with fail
        refine CD.out.mono ?_
        rintro e w3 ⟨rfl, m, rfl⟩
        go_wp2_with (at_delete; refine wpList_delete_ex _ rfl _ _ 46 3 rfl _ _ rfl rfl _ (HD.out m) ?c2)
        case c2 =>
          intro w4 hp
          rw [← List.map_append] at hp
          have HP := hid (HK.out w4 hp)
          clear hp
          go_wp2_with fail
          exact ⟨HP.out.1, by show w4.rangeLeft bm it < _; rw [HP.out.2]; exact HL.out⟩

theorem onlyY_conns {n : Net} {ys : Ys} (hy : ys.map (·.1) = n.conns) (node : Int) : (ys.filter (keepY node)).map (·.1) = (n.drop node).1.conns := by
  show _ = n.conns.filter _
  rw [← hy, List.filter_map]
  rfl
set_option maxRecDepth 100000 in
set_option maxHeartbeats 2000000 in
theorem drop_held {w0 w : World} {B : List Res} {p : Nat} {n : Net} (h : Held w0 w (rNet p n :: B)) (hok : n.Ok) (hl : n.last ≤ 1000000001) (node : Int) :
    Calls Try.prog 24 #[.pointer (some ⟨p, 0, none⟩), .int .i64 node] w fun e w' => e = .returned (.int .i64 (n.drop node).2) ∧ Held w0 w' (rNet p (n.drop node).1 :: B) := by
  obtain ⟨bm, ys, hy, h1⟩ := h.nopen
  have h2 := h1.block 3 #[.int .i64 node]
  -- node, blk, map, big
  have hnd : (ys.map (·.1.1)).Nodup := by
    have := hok.apart
    rw [← hy, List.map_map] at this
    exact this
  have hwf : ∀ y ∈ ys, (Lit.int .i64 y.1.1).wf = true := fun y hm => hok.wf hl y.1 (by rw [← hy]; exact List.mem_map_of_mem hm)
  have c0 : (w.alloc (.cells #[.int .i64 node] 3)).cell? ⟨p, 0, none⟩ = some (.map (some bm)) := (Held.blk0 (Held.pull1 h2)).cell rfl
  have HM := hid (made_any (w.alloc (.cells #[.int .i64 node] 3)) p (some bm) c0)
  have len1 := (Held.mapAt (A := [_, _]) h2).run_len (t := 46) Try.underlying46
  have HD := hid (delete_func (B := rBlk p 48 #[.map (some bm), .int .i64 n.last] :: B) (Held.pull1 (Held.pull3 (Held.pull2 h2))) hnd hwf)
  have HY := hid hy
  obtain ⟨la, hla⟩ : ∃ la : Nat, la = ys.length := ⟨_, rfl⟩
  obtain ⟨lb, hlb⟩ : ∃ lb : Nat, lb = (ys.filter (keepY node)).length := ⟨_, rfl⟩
  have hle : lb ≤ la := by rw [hla, hlb]; exact List.length_filter_le _ _
  have hfew : la ≤ 64 := by have h1 := hok.few; have h2 := congrArg List.length hy; simp at h2; omega
  have HR := hid (show (la : Int) - (lb : Int) = (n.drop node).2 by
    show _ = (n.conns.length : Int) - (n.drop node).1.conns.length
    rw [← onlyY_conns hy, ← hy, List.length_map, List.length_map, hla, hlb])
  have hw : IntKind.i64.wrap ((la : Int) - (lb : Int)) = (la : Int) - (lb : Int) := by rw [IntKind.wrap_i64]; omega
  have HB := hid hlb
  have hpl : (ys.map pairOf).length = la := by rw [List.length_map, hla]
  rw [hpl] at len1
  clear h h1 h2 hok hy hnd hwf hla hlb hpl
  go_enter Try.func24, Try.ntmps24
  go_wp2_with fail
  refine HM.out.mono ?_
  rintro e w1 ⟨rfl, rfl⟩
  go_wp2_with fail
  refine HD.out.mono ?_
  rintro e w2 ⟨rfl, g2⟩
  have g3 := Held.pull3 g2
  have d0 : w2.cell? ⟨p, 0, none⟩ = some (.map (some bm)) := (Held.blk0 g3).cell rfl
  have len2 := (Held.mapAt (A := []) g2).run_len (t := 46) Try.underlying46
  rw [List.length_map, ← HB.out] at len2
  have HX := hid (Held.nshut (n := (n.drop node).1) (onlyY_conns HY.out node) (Held.drop0 (Held.pull3 g3)))
  clear g2 g3 HD HM c0 len1
  go_wp2_with fail
  go_ret
  rw [HR.out]
  exact ⟨rfl, HX.out⟩
end Go.Proofs.Ytcdeknbbeghljaa
