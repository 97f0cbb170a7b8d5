/- kvstore: a law. (Several texts in one file, by mz.py.) -/
import Derived.Test.YtdbhccehbjhbpaaGreatDoorK19
import Derived.SizedLaws

/- kvstore's laws: what the commits of a list of calls make. -/
namespace Go.Proofs.YtdbhccehbjhbpaaGreatDoor
open Go.RowKit
open Disk (Dk Dict)
open Slog (Seg recsOf Lg)
open Kv (It KOp Items)

theorem rising_len (d : Items) (f : List UInt8 → It → Bool) : (Kv.rising d f).length ≤ d.length := by
  have := (Kv.pick_keys d f ((d.map (·.1)).mergeSort Disk.leB)).length_le
  rw [List.length_map, List.length_mergeSort, List.length_map] at this
  exact this
/-- the store behind the first k calls' commits. -/
def playK (m : Nat) (ds : List KDo) (k : Nat) : Kv.St := (kst m).play ((ds.take k).map (·.ops))
structure PlayOk (s : Kv.St) (k : Nat) : Prop where
  good : Kv.Good s
  next : s.lg.next ≤ k + 1
theorem PlayOk.ver {s : Kv.St} {k : Nat} (h : PlayOk s k) : s.version ≤ k := by have := h.good.next; have := h.next; omega
theorem playK_ok {m : Nat} (hm : m ≤ 16777216) (ds : List KDo) {k : Nat} (hk : k ≤ 60) : PlayOk (playK m ds k) k := by
  have hl : ((ds.take k).map (·.ops)).length ≤ k := by rw [List.length_map, List.length_take]; omega
  obtain ⟨h1, h2⟩ := (kst_good hm).play ((ds.take k).map (·.ops)) (by show 1 + _ ≤ 246; omega)
  refine ⟨h1, ?_⟩
  have h3 : ((kst m).play ((ds.take k).map (·.ops))).lg.next ≤ 1 + _ := h2
  show ((kst m).play ((ds.take k).map (·.ops))).lg.next ≤ k + 1
  omega
theorem playK_succ {m : Nat} {ds : List KDo} {k : Nat} (hk : k < ds.length) : playK m ds (k + 1) = ((playK m ds k).commit ds[k].ops).1 := by
  unfold playK
  rw [List.take_succ_eq_append_getElem hk, List.map_append, List.map_cons, List.map_nil, Kv.St.play_snoc]
theorem playK_all (m : Nat) (ds : List KDo) {k : Nat} (hk : ds.length ≤ k) : playK m ds k = playK m ds ds.length := by
  unfold playK
  rw [List.take_of_length_le hk, List.take_length]
theorem items_few {s : Kv.St} {k : Nat} (h : PlayOk s k) (hk : k ≤ 200) (f : List UInt8 → It → Bool) : (Kv.rising s.items f).length ≤ 60000 := by
  have := rising_len s.items f
  have := h.good.items.many
  have := h.ver
  omega

theorem le_of_gtr {a b : List UInt8} (x : (!Op.bytesLess a b && !(a == b)) = false) : a ≤ b := by
  intro h
  rw [bytesLess_eq] at x
  simp at x
  by_cases hlt : a < b
  · exact List.lt_irrefl _ (List.lt_trans hlt h)
  · exact List.lt_irrefl b (by rw [x hlt] at h; exact h)

end Go.Proofs.YtdbhccehbjhbpaaGreatDoor

/- kvstore's laws: how long an argument may be; one call ahead of others (KvstoreWrites). -/
namespace Go.Proofs.YtdbhccehbjhbpaaGreatDoor
open Go.ChangeShapes Go.WideShapes Go.ChangeAt Go.RowKit
open Kv (KOp)

theorem reach_len {H : Type} {enc : TypeId × Value → H} {P : Program} {W : World} {t e : TypeId} {d : DataW H} {p : List MemPlace} {A : Option Addr} {n c : Nat} (ht : P.underlying t = some (.slice e))
    (h : DataW.Trod enc P W 0 (fun _ => true) true t (.slice A n c) d p) {ts : List TypeId} {ds : List (DataW H)} (hw : (DataW.weightsEach P ts ds).all (· ≤ reachBytes) = true) {j : Nat} (hj : ts[j]? = some t) (hd : ds[j]? = some d) : n * P.bytesOf e ≤ 140737488351232 := by
  obtain ⟨fuel, hf⟩ := h
  rcases Go.Deep.open_slice ht hf with ⟨hcs, -⟩ | ⟨a, len, cap, m, nn, D, Pl, hcs, -, hl, -, -, hx, -⟩
  · simp [Value.cells] at hcs
    simp [hcs]
  · simp [Value.cells] at hcs
    obtain ⟨rfl, h2, rfl⟩ := hcs
    injection hx with h3 _
    subst h3
    have := sized_slice hw hj hd ht
    simp only [List.length_map, List.length_range] at this
    have h4 : reachBytes = 140737488351232 := by decide
    rw [h4] at this
    rw [h2]
    refine Nat.le_trans (Nat.mul_le_mul_right _ (Nat.le_add_right len _)) this
/-- a call that holds ops alone. -/
def opsDo (ops : List KOp) : KDo := ⟨0, ops, none, 0, 0, 0⟩
/-- one call ahead of others. -/
theorem Dos.cons {w0 w : World} {B : List Res} {u q : Value} {ds : List KDo} {qs : List Value} {ops : List KOp} (h : Held w0 w (rRows 4 32 u (doRow (opsDo ops) q :: List.zipWith doRow ds qs) :: B)) (hl : qs.length = ds.length)
    (hq : KOps (· < w0.heap.size) w0 q ops) (hd : ∀ (i : Nat) (d : KDo) (q : Value), ds[i]? = some d → qs[i]? = some q → KOps (· < w0.heap.size) w0 q d.ops) : Dos (fun _ => True) (· < w0.heap.size) w u (opsDo ops :: ds) := by
  have hm := h.mod
  have keep : ∀ (x : Value) (o : List KOp), KOps (· < w0.heap.size) w0 x o → KOps (· < w0.heap.size) w x o := fun x o hx => hx.keep fun b hb _ => hm.block b hb (fun h => h)
  refine ⟨q :: qs, by simp [hl], Held.rows_rd h, fun i d x h1 h2 => ?_⟩
  cases i with
  | zero => simp at h1 h2; subst h1 h2; exact keep _ _ hq
  | succ i => exact keep _ _ (hd i d x (by simpa using h1) (by simpa using h2))
theorem Tryz.infoDo : (Tryz.prog.info? 32).map (fun i => (i.zero, i.size, i.bytes)) = some (some (.agg #[.int .i64 0, .slice none 0 0, .slice none 0 0, .int .i64 0]), 4, 64) := by kernel_rfl
theorem bytesDo : Tryz.prog.bytesOf 32 = 64 := by kernel_rfl
/-- what Get hands back, with its parts named. -/
theorem getV_form (k : List UInt8) (o : Option Kv.It) : ∃ (k' v' : ByteArray) (g' b' : Bool) (a' : Int), getV k o = .tuple #[.agg #[.string k', .bool g', .string v', .int .i64 a'], .bool b'] := by
  cases o with
  | none => exact ⟨_, _, _, _, _, rfl⟩
  | some x => exact ⟨_, _, _, _, _, rfl⟩
end Go.Proofs.YtdbhccehbjhbpaaGreatDoor

/- kvstore: each call of a store, or on a disk, that no call made; KvstoreNobody's walk. (Printed by gen_K24.py.) -/
namespace Go.Proofs.YtdbhccehbjhbpaaGreatDoor
open Go.RowKit Go.MuLone
open Disk (Dk)
open Kv (It KOp Items)

def DNot (v : Value) (w : World) : Prop := v = .pointer none ∨ ∃ b, v = .pointer (some ⟨b, 0, none⟩) ∧ w.cell? ⟨b, 1, none⟩ = some (.map none)
theorem dmade_no (v : Value) (w : World) (h : DNot v w) : Calls Tryz.prog 147 #[v] w fun e w' => e = .returned (.bool false) ∧ w = w' := by
  rcases h with rfl | ⟨b, rfl, hc⟩
  · go_enter Tryz.func147, Tryz.ntmps147
    go_wp2_with fail
    go_ret
    exact ⟨rfl, rfl⟩
  · exact dmade_any w b none hc
theorem dclone_no (v : Value) (w : World) (h : DNot v w) : Calls Tryz.prog 95 #[v] w fun e w' => e = .returned (.pointer none) ∧ w = w' := by
  have HM := hid (dmade_no v w h)
  clear h
  go_enter Tryz.func95, Tryz.ntmps95
  go_wp2_with (first | (go_at_call 147; refine HM.out.mono ?_; rintro e w' ⟨rfl, rfl⟩))
  go_ret
  exact ⟨rfl, rfl⟩
theorem open_no (v : Value) (w : World) (h : DNot v w) : Calls Tryz.prog 59 #[v] w fun e w' => e = .returned (.tuple #[.pointer none, .int .i64 8]) ∧ w = w' := by
  have HM := hid (dclone_no v w h)
  clear h
  go_enter Tryz.func59, Tryz.ntmps59
  go_wp2_with (first | (go_at_call 95; refine HM.out.mono ?_; rintro e w' ⟨rfl, rfl⟩))
  go_ret2
  exact ⟨rfl, rfl⟩

theorem DNot.step {v : Value} {w w' : World} (h : DNot v w) (hm : Mod (fun _ => False) w w') : DNot v w' := by
  rcases h with h | ⟨b, h, hc⟩
  · exact .inl h
  · exact .inr ⟨b, h, hm.cell hc (fun h => h)⟩
theorem kopen_no (v : Value) (w : World) (h : DNot v w) : Calls Tryz.prog 27 #[v] w fun e w' => e = .returned (.tuple #[.pointer none, .int .i64 8]) ∧ w = w' := by
  have HM := hid (open_no v w h)
  clear h
  go_enter Tryz.func27, Tryz.ntmps27
  go_wp2_with (first | (go_at_call 59; refine HM.out.mono ?_; rintro e w' ⟨rfl, rfl⟩))
  go_ret2
  exact ⟨rfl, rfl⟩
def KNot (v : Value) (w : World) : Prop := v = .pointer none ∨ ∃ b, v = .pointer (some ⟨b, 0, none⟩) ∧ w.cell? ⟨b, 2, none⟩ = some (.pointer none)
theorem KNot.step {v : Value} {w w' : World} (h : KNot v w) (hm : Mod (fun _ => False) w w') : KNot v w' := by
  rcases h with h | ⟨b, h, hc⟩
  · exact .inl h
  · exact .inr ⟨b, h, hm.cell hc (fun h => h)⟩
theorem kmade_no (v : Value) (w : World) (h : KNot v w) : Calls Tryz.prog 32 #[v] w fun e w' => e = .returned (.bool false) ∧ w = w' := by
  rcases h with rfl | ⟨b, rfl, hc⟩
  · go_enter Tryz.func32, Tryz.ntmps32
    go_wp2_with fail
    go_ret
    exact ⟨rfl, rfl⟩
  · go_enter Tryz.func32, Tryz.ntmps32
    go_wp2_with fail
    go_ret
    exact ⟨rfl, rfl⟩
theorem kversion_no (v : Value) (w : World) (h : KNot v w) : Calls Tryz.prog 13 #[v] w fun e w' => e = .returned (.int .i64 0) ∧ w = w' := by
  have HM := hid (kmade_no v w h)
  clear h
  go_enter Tryz.func13, Tryz.ntmps13
  go_wp2_with (first | (go_at_call 32; refine HM.out.mono ?_; rintro e w' ⟨rfl, rfl⟩))
  go_ret
  exact ⟨rfl, rfl⟩
theorem ksynced_no (v : Value) (w : World) (h : KNot v w) : Calls Tryz.prog 30 #[v] w fun e w' => e = .returned (.int .i64 0) ∧ w = w' := by
  have HM := hid (kmade_no v w h)
  clear h
  go_enter Tryz.func30, Tryz.ntmps30
  go_wp2_with (first | (go_at_call 32; refine HM.out.mono ?_; rintro e w' ⟨rfl, rfl⟩))
  go_ret
  exact ⟨rfl, rfl⟩
theorem kbytes_no (v : Value) (w : World) (h : KNot v w) : Calls Tryz.prog 24 #[v] w fun e w' => e = .returned (.int .i64 0) ∧ w = w' := by
  have HM := hid (kmade_no v w h)
  clear h
  go_enter Tryz.func24, Tryz.ntmps24
  go_wp2_with (first | (go_at_call 32; refine HM.out.mono ?_; rintro e w' ⟨rfl, rfl⟩))
  go_ret
  exact ⟨rfl, rfl⟩
theorem kcommit_no (v : Value) (w : World) (u : Value) (h : KNot v w) : Calls Tryz.prog 12 #[v, u] w fun e w' => e = .returned (.tuple #[.int .i64 0, .int .i64 8]) ∧ w = w' := by
  have HM := hid (kmade_no v w h)
  clear h
  go_enter_defers Tryz.func12, Tryz.ntmps12
  go_wp2_with (first | (go_at_call 32; refine HM.out.mono ?_; rintro e w' ⟨rfl, rfl⟩))
  exact ⟨_, results_tmp2 rfl _ _ _, rfl, rfl⟩
theorem ksync_no (v : Value) (w : World) (h : KNot v w) : Calls Tryz.prog 26 #[v] w fun e w' => e = .returned (.int .i64 8) ∧ w = w' := by
  have HM := hid (kmade_no v w h)
  clear h
  go_enter_defers Tryz.func26, Tryz.ntmps26
  go_wp2_with (first | (go_at_call 32; refine HM.out.mono ?_; rintro e w' ⟨rfl, rfl⟩))
  exact ⟨_, results_tmp rfl _ _ _, rfl, rfl⟩
theorem kcompact_no (v : Value) (w : World) (h : KNot v w) : Calls Tryz.prog 29 #[v] w fun e w' => e = .returned (.int .i64 8) ∧ w = w' := by
  have HM := hid (kmade_no v w h)
  clear h
  go_enter_defers Tryz.func29, Tryz.ntmps29
  go_wp2_with (first | (go_at_call 32; refine HM.out.mono ?_; rintro e w' ⟨rfl, rfl⟩))
  exact ⟨_, results_tmp rfl _ _ _, rfl, rfl⟩
set_option maxRecDepth 100000 in
theorem kget_no (v : Value) (w : World) (k : Value) (h : KNot v w) : Calls Tryz.prog 19 #[v, k] w fun e w' => e = .returned (.tuple #[.agg #[.string ⟨#[]⟩, .bool false, .string ⟨#[]⟩, .int .i64 0], .bool false]) ∧ Mod (fun _ => False) w w' := by
  have HM := hid (kmade_no v _ (h.step ((Mod.refl _ w).alloc (.cells #[.string ⟨#[]⟩, .bool false, .string ⟨#[]⟩, .int .i64 0] 41))))
  have HB := hid (Blk.new w 41 #[.string ⟨#[]⟩, .bool false, .string ⟨#[]⟩, .int .i64 0])
  clear h
  go_enter Tryz.func19, Tryz.ntmps19
  go_wp2_with (first | (go_at_call 32; refine HM.out.mono ?_; rintro e w' ⟨rfl, rfl⟩))
  refine bodyPost_ret (res_cell_tmp rfl _ _ w.heap.size 41 _ _ rfl HB.out Tryz.underlying41 rfl (by kernel_rfl)) rfl ?_
  exact ⟨rfl, (Mod.refl _ w).alloc _⟩
theorem krising_no (v : Value) (w : World) (f : Value) (h : KNot v w) : Calls Tryz.prog 40 #[v, f] w fun e w' => e = .returned (.slice none 0 0) ∧ w = w' := by
  have HM := hid (kmade_no v w h)
  clear h
  go_enter Tryz.func40, Tryz.ntmps40
  go_wp2_with (first | (go_at_call 32; refine HM.out.mono ?_; rintro e w' ⟨rfl, rfl⟩))
  go_ret
  exact ⟨rfl, rfl⟩
theorem kscan_no (v : Value) (w : World) (a b : ByteArray) (h : KNot v w) : Calls Tryz.prog 14 #[v, .string a, .string b] w fun e w' => e = .returned (.slice none 0 0) ∧ Mod (fun _ => False) w w' := by
  have HM := hid (fun f => krising_no v _ f (h.step (((Mod.refl _ w).alloc (.cells #[.string a] 9)).alloc (.cells #[.string b] 9))))
  clear h
  go_enter Tryz.func14, Tryz.ntmps14
  go_wp2_with (first | (go_at_call 40; refine (HM.out _).mono ?_; rintro e w' ⟨rfl, rfl⟩))
  go_ret
  exact ⟨rfl, ((Mod.refl _ w).alloc _).alloc _⟩
theorem ksince_no (v : Value) (w : World) (m : Int) (h : KNot v w) : Calls Tryz.prog 15 #[v, .int .i64 m] w fun e w' => e = .returned (.slice none 0 0) ∧ Mod (fun _ => False) w w' := by
  have HM := hid (fun f => krising_no v _ f (h.step ((Mod.refl _ w).alloc (.cells #[.int .i64 m] 3))))
  clear h
  go_enter Tryz.func15, Tryz.ntmps15
  go_wp2_with (first | (go_at_call 40; refine (HM.out _).mono ?_; rintro e w' ⟨rfl, rfl⟩))
  go_ret
  exact ⟨rfl, (Mod.refl _ w).alloc _⟩
theorem Tryz.infoOp : (Tryz.prog.info? 55).map (fun i => (i.zero, i.size, i.bytes)) = some (some (.agg #[.string ⟨#[]⟩, .bool false, .string ⟨#[]⟩]), 3, 40) := by kernel_rfl
set_option maxRecDepth 100000 in
set_option maxHeartbeats 1000000 in
theorem clone_ops (S : Nat → Prop) (w : World) (u : Value) (ops : List KOp) (ho : KOps S w u ops) (h40 : ops.length * 40 ≤ 140737488351232) :
    Calls Tryz.prog 28 #[u] w fun e w' => ∃ v', e = .returned v' ∧ Mod (fun _ => False) w w' := by
  obtain ⟨O, oc, rfl, ho1, ho2⟩ := ho.form
  obtain ⟨iD, ii, iz, is, ib⟩ := info_parts Tryz.infoOp
  have HI := hid (And.intro ii (And.intro iz (And.intro is ib)))
  have H0 := hid (show Held w (w.alloc (.cells #[] 55)) (rRows 3 55 (.slice (some ⟨w.heap.size, 0, none⟩) 0 0) [] :: []) from
    (Held.begin w).more (F := [w.heap.size]) ⟨(fun r hr => by cases hr), Own.made2 _ 3 w⟩ (upd_built w _))
  have HO := hid (ho.1.keep (w' := w.alloc (.cells #[] 55)) fun b _ hb => Below.heap_alloc _ _ b hb)
  have H1 := hid (show ∀ r ∈ ops.map opRow, ∀ y ∈ r, y.oneCell' = true from fun r hr y hy => by
    obtain ⟨p, -, rfl⟩ := List.mem_map.1 hr
    unfold opRow sv at hy
    simp only [List.mem_cons, List.not_mem_nil, or_false] at hy
    rcases hy with rfl | rfl | rfl <;> rfl)
  have HL := hid (show (ops.map opRow).length = ops.length by rw [List.length_map])
  obtain ⟨n, hn⟩ : ∃ n, n = ops.length := ⟨_, rfl⟩
  have HN := hid hn
  rw [← hn] at ho1 h40 HO ⊢
  clear hn ho ii iz is ib
  have eN := fun (w : World) (a : Option Addr) (n c : Nat) => Lib.run_eql_slice_nil (P := Tryz.prog) w 29 55 a n c 0 0 Tryz.underlying29
  cases O with
  | none =>
    go_enter Tryz.func28, Tryz.ntmps28
    go_wp2_with fail
    go_ret
    exact ⟨_, rfl, Mod.refl _ _⟩
  | some ad =>
    go_enter Tryz.func28, Tryz.ntmps28
    go_wp2_with (at_builtin; refine wpList_rows_held [] _ rfl _ _ 29 rfl 3 55 iD _ 40 Tryz.underlying29 HI.out.1 HI.out.2.1 HI.out.2.2.1 HI.out.2.2.2 rfl (by decide) _ _ rfl H0.out _ _ (ops.map opRow) rfl HO.out H1.out ?c2 ?c3 ?c4)
    case c2 => have := HN.out; have := HL.out; rw [List.length_nil]; omega
    case c3 => have := HN.out; have := HL.out; rw [List.length_nil]; unfold maxLen; omega
    case c4 =>
      intro v' w' g1
      have G1 := hid g1.mod
      clear g1
      go_wp2_with fail
      go_ret
      exact ⟨_, rfl, G1.out⟩

set_option maxRecDepth 100000 in
set_option maxHeartbeats 4000000 in
theorem nobody_walk (w : World) (u : Value) (ops : List KOp) (ho : KOps (· < w.heap.size) w u ops) (h40 : ops.length * 40 ≤ 140737488351232) (key : List UInt8) :
    Calls Tryz.prog 8 #[u, sv key] w fun e w' => e = .returned (.bool true) ∧ Below w.heap.size w w' := by
  obtain ⟨O, oc, rfl, ho1, ho2⟩ := ho.form
  have HO := hid ho
  clear ho
  generalize hol : ops.length = ol at *
  have HOL := hid hol
  rw [← hol] at h40
  clear hol
  unfold sv
  go_enter Tryz.func8, Tryz.ntmps8
  go_wp2_with fail
  have g0 := (((Held.begin w).block 73 #[.int .i32 0, .int .u32 0, .pointer none, .map none, .int .i64 0, .int .i64 0]).block 26 #[.pointer none, .pointer (some ⟨w.heap.size, 0, none⟩)])
  rw [alloc_size] at g0
  generalize ((w.alloc (.cells #[.int .i32 0, .int .u32 0, .pointer none, .map none, .int .i64 0, .int .i64 0] 73)).alloc (.cells #[.pointer none, .pointer (some ⟨w.heap.size, 0, none⟩)] 26)) = wL at *
  generalize hlb : w.heap.size + 1 = lb at *
  obtain ⟨b0, hb0⟩ : ∃ b0, b0 = w.heap.size := ⟨_, rfl⟩
  rw [← hb0] at g0 ⊢
  have x0 : wL.cell? ⟨lb, 0, none⟩ = some (.pointer none) := g0.blk0.cell rfl
  have x1 : wL.cell? ⟨lb, 1, none⟩ = some (.pointer (some ⟨b0, 0, none⟩)) := g0.blk0.cell rfl
  have GG := hid g0
  have HB0 := hid hb0
  clear g0 hlb hb0
  refine wp_loop_rounds 3 ?_
  rw [rounds_succ]
  go_wp2_with (first
    | (go_at_call 28; refine (clone_ops (· < w.heap.size) _ _ ops (HO.out.keep (fun b hb _ => GG.out.mod.block b hb (fun h => h))) h40).mono ?_; rintro e wa1 ⟨u1, rfl, m1⟩; replace GG := hid (GG.out.step m1); clear m1)
    | (go_at_call 12; refine (kcommit_no _ _ _ (Or.inl rfl)).mono ?_; rintro e w' ⟨rfl, rfl⟩)
    | (go_at_call 19; refine (kget_no _ _ _ (Or.inl rfl)).mono ?_; rintro e wg1 ⟨rfl, m1⟩; replace GG := hid ((GG.out.step m1).alloc (.cells #[.string ⟨#[]⟩, .bool false, .string ⟨#[]⟩, .int .i64 0] 41)); clear m1)
    | (go_at_call 26; refine (ksync_no _ _ (Or.inl rfl)).mono ?_; rintro e w' ⟨rfl, rfl⟩)
    | (go_at_call 29; refine (kcompact_no _ _ (Or.inl rfl)).mono ?_; rintro e w' ⟨rfl, rfl⟩)
    | (go_at_call 13; refine (kversion_no _ _ (Or.inl rfl)).mono ?_; rintro e w' ⟨rfl, rfl⟩)
    | (go_at_call 30; refine (ksynced_no _ _ (Or.inl rfl)).mono ?_; rintro e w' ⟨rfl, rfl⟩)
    | (go_at_call 24; refine (kbytes_no _ _ (Or.inl rfl)).mono ?_; rintro e w' ⟨rfl, rfl⟩)
    | (go_at_call 14; refine (kscan_no _ _ _ _ (Or.inl rfl)).mono ?_; rintro e ws1 ⟨rfl, m1⟩; replace GG := hid (GG.out.step m1); clear m1)
    | (go_at_call 15; refine (ksince_no _ _ _ (Or.inl rfl)).mono ?_; rintro e wn1 ⟨rfl, m1⟩; replace GG := hid (GG.out.step m1); clear m1; have y1 : wn1.cell? ⟨lb, 1, none⟩ = some (.pointer (some ⟨b0, 0, none⟩)) := GG.out.blk0.cell rfl))
  clear x0 x1
  rw [rounds_succ]
  go_wp2_with (first
    | (go_at_call 28; refine (clone_ops (· < w.heap.size) _ _ ops (HO.out.keep (fun b hb _ => GG.out.mod.block b hb (fun h => h))) h40).mono ?_; rintro e wa2 ⟨u1, rfl, m1⟩; replace GG := hid (GG.out.step m1); clear m1)
    | (go_at_call 12; refine (kcommit_no _ _ _ (Or.inr ⟨b0, rfl, GG.out.pull1.blk0.cell rfl⟩)).mono ?_; rintro e w' ⟨rfl, rfl⟩)
    | (go_at_call 19; refine (kget_no _ _ _ (Or.inr ⟨b0, rfl, GG.out.pull1.blk0.cell rfl⟩)).mono ?_; rintro e wg2 ⟨rfl, m1⟩; replace GG := hid ((GG.out.step m1).alloc (.cells #[.string ⟨#[]⟩, .bool false, .string ⟨#[]⟩, .int .i64 0] 41)); clear m1)
    | (go_at_call 26; refine (ksync_no _ _ (Or.inr ⟨b0, rfl, GG.out.pull1.blk0.cell rfl⟩)).mono ?_; rintro e w' ⟨rfl, rfl⟩)
    | (go_at_call 29; refine (kcompact_no _ _ (Or.inr ⟨b0, rfl, GG.out.pull1.blk0.cell rfl⟩)).mono ?_; rintro e w' ⟨rfl, rfl⟩)
    | (go_at_call 13; refine (kversion_no _ _ (Or.inr ⟨b0, rfl, GG.out.pull1.blk0.cell rfl⟩)).mono ?_; rintro e w' ⟨rfl, rfl⟩)
    | (go_at_call 30; refine (ksynced_no _ _ (Or.inr ⟨b0, rfl, GG.out.pull1.blk0.cell rfl⟩)).mono ?_; rintro e w' ⟨rfl, rfl⟩)
    | (go_at_call 24; refine (kbytes_no _ _ (Or.inr ⟨b0, rfl, GG.out.pull1.blk0.cell rfl⟩)).mono ?_; rintro e w' ⟨rfl, rfl⟩)
    | (go_at_call 14; refine (kscan_no _ _ _ _ (Or.inr ⟨b0, rfl, GG.out.pull1.blk0.cell rfl⟩)).mono ?_; rintro e ws2 ⟨rfl, m1⟩; replace GG := hid (GG.out.step m1); clear m1)
    | (go_at_call 15; refine (ksince_no _ _ _ (Or.inr ⟨b0, rfl, GG.out.pull1.blk0.cell rfl⟩)).mono ?_; rintro e wn2 ⟨rfl, m1⟩; replace GG := hid (GG.out.step m1); clear m1))
  clear y1
  rw [rounds_succ]
  go_wp2_with fail
  have g2 := ((GG.out.block 81 #[.int .i64 0, .map none, .map none, .slice none 0 0, .map none]).block 25 #[.pointer none, .pointer (some ⟨wn2.heap.size, 0, none⟩)])
  rw [alloc_size] at g2
  clear GG
  generalize ((wn2.alloc (.cells #[.int .i64 0, .map none, .map none, .slice none 0 0, .map none] 81)).alloc (.cells #[.pointer none, .pointer (some ⟨wn2.heap.size, 0, none⟩)] 25)) = wM at *
  generalize wn2.heap.size + 1 = lc at *
  generalize wn2.heap.size = b2 at *
  have x0 : wM.cell? ⟨lc, 0, none⟩ = some (.pointer none) := g2.blk0.cell rfl
  have x1 : wM.cell? ⟨lc, 1, none⟩ = some (.pointer (some ⟨b2, 0, none⟩)) := g2.blk0.cell rfl
  have HD1 := hid (show DNot (.pointer none) wM from Or.inl rfl)
  have HD2 := hid (show DNot (.pointer (some ⟨b2, 0, none⟩)) wM from Or.inr ⟨b2, rfl, g2.pull1.blk0.cell rfl⟩)
  have HG := hid g2
  clear g2
  refine wp_loop_rounds 3 ?_
  rw [rounds_succ]
  go_wp2_with (first | (go_at_call 27; refine (kopen_no _ _ HD1.out).mono ?_; rintro e w' ⟨rfl, rfl⟩))
  rw [rounds_succ]
  go_wp2_with (first | (go_at_call 27; refine (kopen_no _ _ HD2.out).mono ?_; rintro e w' ⟨rfl, rfl⟩))
  rw [rounds_succ]
  go_wp2_with (first | (go_at_call 10; refine (kawake_any _).mono ?_; rintro e w9 ⟨rfl, m9⟩; have HE := hid (HG.out.step m9); clear m9))
  go_ret
  exact ⟨rfl, HE.out.below⟩
end Go.Proofs.YtdbhccehbjhbpaaGreatDoor

/- KvstoreNobody: the walk over the arguments as they come in. -/
namespace Go.Proofs.YtdbhccehbjhbpaaGreatDoor
open Go.ChangeShapes Go.WideShapes Go.ChangeAt Go.RowKit
set_option maxRecDepth 100000 in
theorem nobody_row {H : Type} {enc : TypeId × Value → H} (W : World) (base : Nat) (v0 v1 : Value) {d0 d1 : DataW H} {p0 p1 : List MemPlace} {ts : List TypeId} {ds : List (DataW H)} (hsz : (DataW.weightsEach Tryz.prog ts ds).all (· ≤ reachBytes) = true)
    (ok0 : Value.okWide Tryz.prog W .any base 29 v0) (h0 : DataW.Trod enc Tryz.prog W 0 (fun _ => true) true 29 v0 d0 p0)
    (ok1 : Value.okWide Tryz.prog W .any base 9 v1) (h1 : DataW.Trod enc Tryz.prog W 0 (fun _ => true) true 9 v1 d1 p1) (t0 : ts[0]? = some 29) (e0 : ds[0]? = some d0) :
    Calls Tryz.prog 8 #[v0, v1] W fun e w' => e = .returned (.bool true) ∧ Below W.heap.size W w' := by
  obtain ⟨x0, hx0⟩ := open_ops ok0 h0
  obtain ⟨s1, rfl, -, -, -⟩ := Go.ChangeMaps.open_string Tryz.underlying9 ok1 h1
  rw [sv_of s1]
  have hz0 : x0.length * 40 ≤ 140737488351232 := by
    obtain ⟨A0, c0, hv0, -, -⟩ := hx0.form
    subst hv0
    have := reach_len Tryz.underlying29 h0 hsz t0 e0
    rwa [show Tryz.prog.bytesOf 55 = 40 by kernel_rfl] at this
  exact nobody_walk W v0 x0 hx0 hz0 s1.data.toList
end Go.Proofs.YtdbhccehbjhbpaaGreatDoor
