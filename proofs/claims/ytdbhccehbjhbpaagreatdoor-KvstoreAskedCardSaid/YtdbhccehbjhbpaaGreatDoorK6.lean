/- kvstore: its items in memory: a map of structs. -/
import Derived.Test.YtdbhccehbjhbpaaGreatDoorTN
import Derived.Test.YtdbhccehbjhbpaaGreatDoorTC

namespace Go.Proofs.YtdbhccehbjhbpaaGreatDoor
open Go.RowKit
open Disk (Dk Dict get_mem get_none put_new del_split)
open Slog (numB)
open Kv (It KOp Items)

def itemV (k : List UInt8) (x : It) : Value := .agg #[sv k, .bool x.gone, sv x.value, .int .i64 x.at_]
def zeroItem : Value := .agg #[sv [], .bool false, sv [], .int .i64 0]
/-- what a look-up gives. -/
def lookV (k : List UInt8) : Option It → Value
  | none => zeroItem
  | some x => itemV k x
def itemsL (d : Items) : List (Value × Value) := d.map fun p => (sv p.1, itemV p.1 p.2)
def rItems (bm : Nat) (d : Items) : Res := rMapB Tryz.prog 9 bm (itemsL d)
theorem zeroItem_run (w : World) : (zeroValue 41).run Tryz.prog w = .ok zeroItem w := Tryz.zeroValue41 w

section
variable {w0 w : World} {A B : List Res} {bm : Nat} {d : Items}
theorem Held.items_at (hh : Held w0 w (A ++ rItems bm d :: B)) : MapAt Tryz.prog 9 w bm (itemsL d) := Held.mapAt hh
theorem Held.items_ok (hh : Held w0 w (A ++ rItems bm d :: B)) : Dict.Ok d := by
  have hn := hh.items_at.nodup
  unfold itemsL at hn
  rw [List.map_map] at hn
  unfold Dict.Ok
  exact (List.pairwise_map.1 (by rw [List.map_map]; exact hn : ((d.map (·.1)).map sv).Nodup)).imp fun hne e => hne (congrArg sv e)
theorem MapAt.items_lookup (hm : MapAt Tryz.prog 9 w bm (itemsL d)) {n : List UInt8} (hn : n.length ≤ 9223372036854775807) :
    (Instr.lookup 37 (.map (some bm)) (sv n) false).run Tryz.prog w = .ok (lookV n (Dict.get d n)) w := by
  cases hg : Dict.get d n with
  | none =>
    have := hm.lookup_miss strKeyed Tryz.underlying37 (zeroItem_run w) (svKey n hn) (fun p hp e => by
      obtain ⟨x, hx, rfl⟩ := List.mem_map.1 hp
      exact get_none hg x hx (sv_inj e)) false
    show _ = Result.ok zeroItem w
    simpa using this
  | some k =>
    have := hm.lookup_hit (v := itemV n k) strKeyed Tryz.underlying37 (svKey n hn) (List.mem_map.2 ⟨(n, k), get_mem hg, rfl⟩) false
    show _ = Result.ok (itemV n k) w
    simpa using this
theorem Held.items_lookup (hh : Held w0 w (A ++ rItems bm d :: B)) {n : List UInt8} (hn : n.length ≤ 9223372036854775807) :
    (Instr.lookup 37 (.map (some bm)) (sv n) false).run Tryz.prog w = .ok (lookV n (Dict.get d n)) w := hh.items_at.items_lookup hn
theorem Held.items_perm {g : Items} (hh : Held w0 w (A ++ rItems bm d :: B)) (hp : d.Perm g) : Held w0 w (A ++ rItems bm g :: B) := Held.map_perm hh (hp.map _)
theorem Held.items_put (hh : Held w0 w (A ++ rItems bm d :: B)) {n : List UInt8} (hn : n.length ≤ 9223372036854775807) (x : It) :
    ∃ w', (Instr.mapUpdate 37 (.map (some bm)) (sv n) (itemV n x)).run Tryz.prog w = .ok () w' ∧ Held w0 w' (A ++ rItems bm (Dict.put d n x) :: B) := by
  have hok := hh.items_ok
  cases hg : Dict.get d n with
  | none =>
    obtain ⟨w', h1, h2⟩ := Held.map_new strKeyed Tryz.underlying37 (L := itemsL d) hh (svKey n hn) (fun p hp e => by
      obtain ⟨x, hx, rfl⟩ := List.mem_map.1 hp
      exact get_none hg x hx (sv_inj e)) (itemV n x)
    refine ⟨w', h1, ?_⟩
    rw [put_new hg]
    exact h2
  | some k0 =>
    obtain ⟨l1, l2, hs⟩ := List.append_of_mem (get_mem hg)
    have hp : (itemsL d).Perm ((sv n, itemV n k0) :: itemsL (l1 ++ l2)) := by
      unfold itemsL
      rw [hs, List.map_append, List.map_cons, List.map_append]
      exact List.perm_middle
    obtain ⟨w', h1, h2⟩ := Held.map_old strKeyed Tryz.underlying37 (L := itemsL d) hh (svKey n hn) hp (itemV n x)
    refine ⟨w', h1, ?_⟩
    have h3 : Held w0 w' (A ++ rItems bm ((n, x) :: (l1 ++ l2)) :: B) := h2
    refine h3.items_perm ?_
    unfold Dict.put
    exact (del_split (.of_eq hs.symm) hok).cons _
theorem Held.items_del (hh : Held w0 w (A ++ rItems bm d :: B)) {n : List UInt8} (hn : n.length ≤ 9223372036854775807) :
    ∃ w', (∀ ty, (Builtin.delete_ #[37, 9] ty #[.map (some bm), sv n]).run Tryz.prog w = .ok (.tuple #[]) w') ∧ Held w0 w' (A ++ rItems bm (Dict.del d n) :: B) := by
  have hok := hh.items_ok
  cases hg : Dict.get d n with
  | none =>
    obtain ⟨w', h1, h2⟩ := Held.map_nodel strKeyed Tryz.underlying37 (L := itemsL d) hh (svKey n hn) (fun p hp e => by
      obtain ⟨x, hx, rfl⟩ := List.mem_map.1 hp
      exact get_none hg x hx (sv_inj e)) 9
    refine ⟨w', h1, ?_⟩
    rw [Disk.del_none hg]
    exact h2
  | some k0 =>
    obtain ⟨l1, l2, hs⟩ := List.append_of_mem (get_mem hg)
    have hp : (itemsL d).Perm ((sv n, itemV n k0) :: itemsL (l1 ++ l2)) := by
      unfold itemsL
      rw [hs, List.map_append, List.map_cons, List.map_append]
      exact List.perm_middle
    obtain ⟨w', h1, h2⟩ := Held.map_del strKeyed Tryz.underlying37 (L := itemsL d) hh (svKey n hn) hp 9
    refine ⟨w', h1, ?_⟩
    have h3 : Held w0 w' (A ++ rItems bm (l1 ++ l2) :: B) := h2
    exact h3.items_perm (del_split (.of_eq hs.symm) hok)
theorem Held.items_made {Rs : List Res} (h : Held w0 w Rs) : Held w0 (w.alloc (.map #[] 0)) (rItems w.heap.size [] :: Rs) := Held.map_made h Tryz.prog 9

/-! ### a store -/
def storeCells (q bm : Nat) (v y : Nat) : Array Value := #[.int .i32 0, .int .u32 0, .pointer (some ⟨q, 0, none⟩), .map (some bm), .int .i64 v, .int .i64 y]
def kvRes (sp p : Nat) (s : Kv.St) (i : Nat × Nat) : List Res := [rBlk sp 73 (storeCells i.1 i.2 s.version s.synced), rItems i.2 s.items, rLog i.1 p s.lg.segs s.lg.next, rDisk p s.dk]
/-- a store. -/
def rKv (sp p : Nat) (s : Kv.St) : Res := rSome (fun _ : Nat × Nat => True) (kvRes sp p s)
theorem Held.kopen {sp p : Nat} {s : Kv.St} (h : Held w0 w (rKv sp p s :: B)) : ∃ q bm, Held w0 w (rBlk sp 73 (storeCells q bm s.version s.synced) :: rItems bm s.items :: rLog q p s.lg.segs s.lg.next :: rDisk p s.dk :: B) := by
  obtain ⟨⟨v, u⟩, -, h1⟩ := Held.open_some (l1 := []) h
  exact ⟨v, u, by simpa [kvRes] using h1⟩
theorem Held.kshut {sp p q bm : Nat} (s : Kv.St) (h : Held w0 w (rBlk sp 73 (storeCells q bm s.version s.synced) :: rItems bm s.items :: rLog q p s.lg.segs s.lg.next :: rDisk p s.dk :: B)) : Held w0 w (rKv sp p s :: B) :=
  Held.close_some (l1 := []) (q := fun _ : Nat × Nat => True) (Rs' := kvRes sp p s) (q, bm) trivial (by simpa [kvRes] using h)
/-- what is seen of it. -/
structure KvSeen (sp q bm : Nat) (s : Kv.St) (w : World) : Prop where
  c0 : w.cell? ⟨sp, 0, none⟩ = some (.int .i32 0)
  c2 : w.cell? ⟨sp, 2, none⟩ = some (.pointer (some ⟨q, 0, none⟩))
  c3 : w.cell? ⟨sp, 3, none⟩ = some (.map (some bm))
  c4 : w.cell? ⟨sp, 4, none⟩ = some (.int .i64 s.version)
  c5 : w.cell? ⟨sp, 5, none⟩ = some (.int .i64 s.synced)
  f0 : w.frozen? ⟨sp, 0, none⟩ = false
theorem Blk.kv {sp q bm : Nat} {s : Kv.St} (h : Blk w sp 73 (storeCells q bm s.version s.synced)) : KvSeen sp q bm s w :=
  ⟨h.cell rfl, h.cell rfl, h.cell rfl, h.cell rfl, h.cell rfl, h.frozen 0⟩

/-- ops in memory, wherever these things stand. -/
def opRow (o : KOp) : List Value := [sv o.key, .bool o.gone, sv o.value]
def Ops (w0 : World) (B : List Res) (v : Value) (ops : List KOp) : Prop := ∀ w' M, Held w0 w' (M ++ B) → RdRows 3 (fun _ => True) w' v (ops.map opRow)
theorem Ops.cons {R : Res} {v : Value} {ops : List KOp} (h : Ops w0 B v ops) : Ops w0 (R :: B) v ops := fun w' M g => h w' (M ++ [R]) (by simpa using g)
theorem Ops.form {v : Value} {ops : List KOp} (h : Ops w0 B v ops) {M : List Res} (g : Held w0 w (M ++ B)) : ∃ O c, v = .slice O ops.length c ∧ ops.length ≤ c ∧ c ≤ 9223372036854775807 := by
  obtain ⟨-, O, c, hv, h1, h2, -⟩ := h w M g
  rw [List.length_map] at hv h1
  exact ⟨O, c, hv, h1, h2⟩
/-- the k-th of them. -/
def OpAt (w : World) (b off : Nat) (o : KOp) : Prop := w.cell? ⟨b, off, none⟩ = some (sv o.key) ∧ w.cell? ⟨b, off + 1, none⟩ = some (.bool o.gone) ∧ w.cell? ⟨b, off + 2, none⟩ = some (sv o.value)
theorem RdRows.op {S : Nat → Prop} {v : Value} {ops : List KOp} (h : RdRows 3 S w v (ops.map opRow)) {k : Nat} (hk : k < ops.length) : ∃ b off c, v = .slice (some ⟨b, off, none⟩) ops.length c ∧ OpAt w b (off + k * 3) ops[k] := by
  obtain ⟨-, O, c, hv, h1, h2, hA⟩ := h
  rw [List.length_map] at hv
  have hr : (ops.map opRow)[k]? = some (opRow ops[k]) := by rw [List.getElem?_map, List.getElem?_eq_getElem hk]; rfl
  obtain ⟨b, off, rfl, -, hc⟩ := hA (by intro e; rw [e] at hr; simp at hr)
  exact ⟨b, off, c, hv, by simpa using hc k 0 _ _ hr rfl, hc k 1 _ _ hr rfl, hc k 2 _ _ hr rfl⟩
end
end Go.Proofs.YtdbhccehbjhbpaaGreatDoor
