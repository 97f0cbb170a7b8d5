/- link in memory, and the contracts of look, made, rest. -/
import Derived.Test.YtcdeknbbeghljaaL1
import Derived.Test.YtcdeknbbeghljaaB3
import Derived.Test.YtcdeknbbeghljaaL2
namespace Go.Proofs.Ytcdeknbbeghljaa
open Go.RowKit
open Go.ChangeMaps (setBlock)
open Go.Maps (Keyed)
open Link

theorem intKeyed : Keyed Try.prog 3 := Go.Maps.int_keyed Try.underlying3
theorem intKey (a : Int) (h : (Lit.int .i64 a).wf = true) : keyOf Try.prog 3 (.int .i64 a) = some (.int .i64 a) := Go.Maps.keyOf_int_mk Try.underlying3 h
theorem zeroConnPtr (w : World) : (zeroValue 67).run Try.prog w = .ok (.pointer none) w := by kernel_rfl

def connCells (c : Conn) (s0 s1 : Value) : Array Value := #[.int .i64 c.a, .int .i64 c.b, s0, .bool c.p0.shut, s1, .bool c.p1.shut]

/-- a connection in memory, behind the pointer v. -/
def ConnR (c : Conn) (v : Value) (w : World) (F : List Nat) : Prop :=
  ∃ b s0 s1 F0 F1, v = .pointer (some ⟨b, 0, none⟩) ∧ Blk w b 73 (connCells c s0 s1) ∧ Own 5 1 s0 c.p0.way.length (bytesV c.p0.way) w F0 ∧ Own 5 1 s1 c.p1.way.length (bytesV c.p1.way) w F1 ∧ F = b :: (F0 ++ F1)

theorem connLoc : Loc (fun x : (Int × Conn) × Value => ConnR x.1.2 x.2) where
  keep := by
    rintro x w w' F ⟨b, s0, s1, F0, F1, hv, hb, h0, h1, rfl⟩ hk
    exact ⟨b, s0, s1, F0, F1, hv, hb.of_eq (hk b (by simp)), h0.keep (fun b hb => hk b (by simp [hb])), h1.keep (fun b hb => hk b (by simp [hb])), rfl⟩
  lt := by
    rintro x w F ⟨b, s0, s1, F0, F1, hv, hb, h0, h1, rfl⟩ k hk
    rcases List.mem_cons.1 hk with rfl | hk
    · exact hb.lt
    · rcases List.mem_append.1 hk with hk | hk
      · exact h0.lt k hk
      · exact h1.lt k hk

/-- a net in memory. -/
def NetAt (p : Nat) (n : Net) (w : World) (F : List Nat) : Prop :=
  ∃ bm G, Blk w p 48 #[.map (some bm), .int .i64 n.last] ∧ MapBig Try.prog 3 (Value.int .i64) ConnR bm n.conns w G ∧ F = p :: G

theorem NetAt.loc (p : Nat) : Loc (NetAt p) where
  keep := by
    rintro n w w' F ⟨bm, G, hb, hm, rfl⟩ hk
    exact ⟨bm, G, hb.of_eq (hk p (by simp)), (MapBig.loc connLoc).keep hm (fun b hb => hk b (by simp [hb])), rfl⟩
  lt := by
    rintro n w F ⟨bm, G, hb, hm, rfl⟩ k hk
    rcases List.mem_cons.1 hk with rfl | hk
    · exact hb.lt
    · exact (MapBig.loc connLoc).lt hm k hk

theorem neqMapNil (w : World) (r : Option Nat) : (binOp .neq 46 (.map r) (.map none)).run Try.prog w = .ok (.bool r.isSome) w := by
  rw [run_neq_map_nil (P := Try.prog) w 46 3 67 r Try.underlying46]
  cases r <;> rfl

theorem made_nil (w : World) : Calls Try.prog 30 #[.pointer none] w fun e w' => e = .returned (.bool false) ∧ w = w' := by
  go_enter Try.func30, Try.ntmps30
  go_wp2
  go_ret
  exact ⟨rfl, rfl⟩
theorem made_any (w : World) (b : Nat) (m : Option Nat) (h : w.cell? ⟨b, 0, none⟩ = some (.map m)) : Calls Try.prog 30 #[.pointer (some ⟨b, 0, none⟩)] w fun e w' => e = .returned (.bool m.isSome) ∧ w = w' := by
  have e1 := neqMapNil
  go_enter Try.func30, Try.ntmps30
  go_wp2
  go_ret
  exact ⟨rfl, rfl⟩

theorem end_idx (c : Conn) (node : Int) : c.end_ node = idx [c.a, c.b] node := by
  unfold Conn.end_ idx
  simp only [List.findIdx?_cons, List.findIdx?_nil, beq_iff_eq]
  split <;> simp_all
  split <;> simp_all

/-- what 'look' hands back. -/
def lookOf (v : Value) (i : Int) : Value := if i = -1 then .tuple #[.pointer none, .int .i64 0, .int .i64 1] else .tuple #[v, .int .i64 i, .int .i64 0]

set_option maxHeartbeats 400000 in
set_option maxRecDepth 100000 in
theorem look_some (p bm b : Nat) (w : World) (id node : Int) (c : Conn) (s0 s1 : Value) (hp : w.cell? ⟨p, 0, none⟩ = some (.map (some bm)))
    (hl : (Instr.lookup 46 (.map (some bm)) (.int .i64 id) false).run Try.prog w = .ok (.pointer (some ⟨b, 0, none⟩)) w) (hb : Blk w b 73 (connCells c s0 s1)) :
    Calls Try.prog 31 #[.pointer (some ⟨p, 0, none⟩), .int .i64 id, .int .i64 node] w fun e w' => e = .returned (lookOf (.pointer (some ⟨b, 0, none⟩)) (c.end_ node)) ∧ w = w' := by
  have hr : Rd (· = b) w (.slice (some ⟨b, 0, none⟩) 2 2) (intsV [c.a, c.b]) := ⟨_, 2, rfl, Nat.le_refl _, by simp [maxLen], fun _ => ⟨b, 0, rfl, rfl, fun k u hu => by
    rw [Nat.zero_add]
    refine hb.cell ?_
    match k with
    | 0 => simpa [connCells, intsV] using hu
    | 1 => simpa [connCells, intsV] using hu
    | k + 2 => simp [intsV] at hu⟩⟩
  have hi := index_any (· = b) w _ [c.a, c.b] node hr
  rw [← end_idx] at hi
  have HM := hid (made_any w p (some bm) hp)
  have HI := hid hi
  clear hi hr hb
  have hlo : -1 ≤ c.end_ node ∧ c.end_ node ≤ 1 := by unfold Conn.end_; split; · omega
                                                      split <;> omega
  generalize c.end_ node = i at *
  by_cases hneg : i = -1
  · have hneg' : i < 0 := by omega
    have hfin : lookOf (.pointer (some ⟨b, 0, none⟩)) i = .tuple #[.pointer none, .int .i64 0, .int .i64 1] := by simp [lookOf, hneg]
    have HF := hid hfin
    clear hneg hfin
    go_enter Try.func31, Try.ntmps31
    go_wp2_with (first
      | (go_at_call 30; refine HM.out.mono ?_; rintro e w' ⟨rfl, rfl⟩)
      | (go_at_call 35; refine HI.out.mono ?_; rintro e w' ⟨rfl, rfl⟩))
    go_ret3
    exact ⟨by rw [HF.out]; rfl, rfl⟩
  · have hneg' : 0 ≤ i := by omega
    have hfin : lookOf (.pointer (some ⟨b, 0, none⟩)) i = .tuple #[.pointer (some ⟨b, 0, none⟩), .int .i64 i, .int .i64 0] := by simp [lookOf, hneg]
    have HF := hid hfin
    clear hneg hfin
    go_enter Try.func31, Try.ntmps31
    go_wp2_with (first
      | (go_at_call 30; refine HM.out.mono ?_; rintro e w' ⟨rfl, rfl⟩)
      | (go_at_call 35; refine HI.out.mono ?_; rintro e w' ⟨rfl, rfl⟩))
    go_ret3
    exact ⟨by rw [HF.out]; rfl, rfl⟩

set_option maxRecDepth 100000 in
theorem look_none (p bm : Nat) (w : World) (id node : Int) (hp : w.cell? ⟨p, 0, none⟩ = some (.map (some bm)))
    (hl : (Instr.lookup 46 (.map (some bm)) (.int .i64 id) false).run Try.prog w = .ok (.pointer none) w) :
    Calls Try.prog 31 #[.pointer (some ⟨p, 0, none⟩), .int .i64 id, .int .i64 node] w fun e w' => e = .returned (.tuple #[.pointer none, .int .i64 0, .int .i64 30]) ∧ w = w' := by
  have HM := hid (made_any w p (some bm) hp)
  go_enter Try.func31, Try.ntmps31
  go_wp2_with (first
    | (go_at_call 30; refine HM.out.mono ?_; rintro e w' ⟨rfl, rfl⟩))
  go_ret3
  exact ⟨rfl, rfl⟩

theorem idxPipes0 (x0 x1 x2 x3 : Value) (w : World) : (Instr.index 71 (.agg #[x0, x1, x2, x3]) (.int .i64 0)).run Try.prog w = .ok (.agg #[x0, x1]) w := by kernel_rfl
theorem idxPipes1 (x0 x1 x2 x3 : Value) (w : World) : (Instr.index 71 (.agg #[x0, x1, x2, x3]) (.int .i64 1)).run Try.prog w = .ok (.agg #[x2, x3]) w := by kernel_rfl

set_option maxRecDepth 100000 in
set_option maxHeartbeats 1000000 in
/-- 'rest' where nothing is to be done. -/
theorem rest_no (p b : Nat) (w : World) (id : Int) (c : Conn) (n0 n1 : Nat) (A0 A1 : Option Addr) (c0 c1 : Nat) (h0 : n0 = c.p0.way.length) (h1 : n1 = c.p1.way.length)
    (hb : Blk w b 73 (connCells c (.slice A0 n0 c0) (.slice A1 n1 c1))) (hr : rested c = false) :
    Calls Try.prog 33 #[.pointer (some ⟨p, 0, none⟩), .int .i64 id, .pointer (some ⟨b, 0, none⟩)] w fun e w' => e = .returned (.tuple #[]) ∧ Mod (fun _ => False) w w' := by
  unfold rested at hr
  obtain ⟨ca, cb, ⟨w0, t0⟩, ⟨w1, t1⟩⟩ := c
  have e2 : w.cell? ⟨b, 2, none⟩ = some (.slice A0 n0 c0) := hb.cell rfl
  have e3 : w.cell? ⟨b, 3, none⟩ = some (.bool t0) := hb.cell rfl
  have e4 : w.cell? ⟨b, 4, none⟩ = some (.slice A1 n1 c1) := hb.cell rfl
  have e5 : w.cell? ⟨b, 5, none⟩ = some (.bool t1) := hb.cell rfl
  clear hb
  simp only at h0 h1 hr
  have b0 : w0.isEmpty = (!decide (0 < n0)) := by subst h0; cases w0 <;> simp
  have b1 : w1.isEmpty = (!decide (0 < n1)) := by subst h1; cases w1 <;> simp
  rw [b0, b1] at hr
  clear b0 b1 h0 h1
  have i0 := idxPipes0
  have i1 := idxPipes1
  have HE : t0 = false ∨ t0 = true ∧ (0 < n0 ∨ n0 = 0 ∧ (t1 = false ∨ t1 = true ∧ 0 < n1)) := by
    cases t0
    · exact .inl rfl
    · refine .inr ⟨rfl, ?_⟩
      by_cases h : 0 < n0
      · exact .inl h
      · refine .inr ⟨by omega, ?_⟩
        cases t1
        · exact .inl rfl
        · refine .inr ⟨rfl, ?_⟩
          by_cases h1 : 0 < n1
          · exact h1
          · simp [h, h1] at hr
  clear hr
  rcases HE with rfl | ⟨rfl, hn | ⟨rfl, rfl | ⟨rfl, hn⟩⟩⟩
  all_goals
    go_enter Try.func33, Try.ntmps33
    go_wp2
    refine wp_loop_rounds 3 ?_
    rw [rounds_succ]
    go_wp2
    try (rw [rounds_succ]; go_wp2)
    refine bodyPost_ret (results_none rfl _ _ _) rfl ?_
    refine ⟨rfl, ?_⟩
    repeat (first | exact Mod.refl _ _ | refine Mod.alloc ?_ _ | refine Mod.drew ?_)

set_option maxRecDepth 100000 in
set_option maxHeartbeats 1000000 in
/-- 'rest' where the connection goes. -/
theorem rest_yes (p bm b : Nat) (w : World) (id : Int) (c : Conn) (n0 n1 : Nat) (A0 A1 : Option Addr) (c0 c1 : Nat) (h0 : n0 = c.p0.way.length) (h1 : n1 = c.p1.way.length) (hp : w.cell? ⟨p, 0, none⟩ = some (.map (some bm)))
    (hb : Blk w b 73 (connCells c (.slice A0 n0 c0) (.slice A1 n1 c1))) (hr : rested c = true) (Post : World → Prop)
    (HD : ∀ W, Mod (fun _ => False) w W → ∃ w', (∀ ty, (Builtin.delete_ #[46, 3] ty #[.map (some bm), .int .i64 id]).run Try.prog W = .ok (.tuple #[]) w') ∧ Post w') :
    Calls Try.prog 33 #[.pointer (some ⟨p, 0, none⟩), .int .i64 id, .pointer (some ⟨b, 0, none⟩)] w fun e w' => e = .returned (.tuple #[]) ∧ Post w' := by
  unfold rested at hr
  obtain ⟨ca, cb, ⟨w0, t0⟩, ⟨w1, t1⟩⟩ := c
  have e2 : w.cell? ⟨b, 2, none⟩ = some (.slice A0 n0 c0) := hb.cell rfl
  have e3 : w.cell? ⟨b, 3, none⟩ = some (.bool t0) := hb.cell rfl
  have e4 : w.cell? ⟨b, 4, none⟩ = some (.slice A1 n1 c1) := hb.cell rfl
  have e5 : w.cell? ⟨b, 5, none⟩ = some (.bool t1) := hb.cell rfl
  clear hb
  simp only [Bool.and_eq_true, List.isEmpty_iff] at h0 h1 hr
  obtain ⟨⟨rfl, rfl⟩, rfl, rfl⟩ := hr
  simp only [List.length_nil] at h0 h1
  subst h0 h1
  have i0 := idxPipes0
  have i1 := idxPipes1
  have HP := hid HD
  have hlt := World.block_lt_of_cell? w _ hp
  have hp1 : ∀ o1 o2, ((w.alloc o1).alloc o2).cell? ⟨p, 0, none⟩ = some (.map (some bm)) := fun o1 o2 => (((Mod.refl (fun _ => False) w).alloc o1).alloc o2).cell hp (fun h => h)
  clear HD
  go_enter Try.func33, Try.ntmps33
  go_wp2
  refine wp_loop_rounds 3 ?_
  rw [rounds_succ]
  go_wp2
  rw [rounds_succ]
  go_wp2
  rw [rounds_succ]
  go_wp2_with (at_delete; refine wpList_delete_ex _ rfl _ _ 46 3 rfl _ _ rfl rfl Post (HP.out _ ?c1) ?c2)
  case c1 => exact ((Mod.refl _ w).alloc _).alloc _
  case c2 =>
    intro w' hPost
    have HQ := hid hPost
    clear hPost
    go_wp2
    go_end0
    exact ⟨rfl, HQ.out⟩
end Go.Proofs.Ytcdeknbbeghljaa
