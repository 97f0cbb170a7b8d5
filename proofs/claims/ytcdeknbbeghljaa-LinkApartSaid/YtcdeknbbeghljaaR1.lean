/- The reference's net in memory; Find, end, way. -/
import Derived.Test.YtcdeknbbeghljaaL20
import Derived.Test.YtcdeknbbeghljaaB11
import Derived.Test.YtcdeknbbeghljaaB7
import Derived.BigQuiet
import Derived.Deep.QuietTactic
namespace Go.Proofs.Ytcdeknbbeghljaa
open Go.RowKit
open Link

abbrev Bytes := List UInt8
structure RefIn where
  b : Nat
  v0 : Value
  v1 : Value
  s0 : Bytes
  s1 : Bytes
  k0 : Nat
  k1 : Nat
def refCells (id : Int) (c : Conn) (r : RefIn) : Array Value := #[.int .i64 id, .int .i64 c.a, .int .i64 c.b, r.v0, r.v1, .int .i64 r.k0, .int .i64 r.k1, .bool c.p1.shut, .bool c.p0.shut]
structure RefOk (M : Nat) (c : Conn) (r : RefIn) : Prop where
  w0 : c.p1.way = r.s0.drop r.k0
  w1 : c.p0.way = r.s1.drop r.k1
  k0 : r.k0 ≤ r.s0.length
  k1 : r.k1 ≤ r.s1.length
  m0 : r.s0.length ≤ M
  m1 : r.s1.length ≤ M
/-- a connection of the reference's. -/
def rRefC (M : Nat) (y : (Int × Conn) × Value) : Res := rSome (fun r : RefIn => y.2 = .pointer (some ⟨r.b, 0, none⟩) ∧ RefOk M y.1.2 r) fun r => [rBlk r.b 94 (refCells y.1.1 y.1.2 r), rBytes r.v0 r.s0, rBytes r.v1 r.s1]
theorem refLoc (M : Nat) : Loc (fun (y : (Int × Conn) × Value) w F => (rRefC M y).holds w F) := ⟨fun {y _ _ _} h hk => (rRefC M y).keep h hk, fun {y _ _} h => (rRefC M y).lt h⟩
/-- a net of the reference's. -/
def refRes (M q : Nat) (last : Int) (vl : Value) (zs : List ((Int × Conn) × Value)) : List Res := [rBlk q 58 #[vl, .int .i64 last], rOwn 88 vl (zs.map (·.2)), rBig (refLoc M) zs]
def rRef (M q : Nat) (n : Net) : Res := rSome (fun x : Value × List ((Int × Conn) × Value) => x.2.map (·.1) = n.conns) fun x => refRes M q n.last x.1 x.2

section
variable {w0 w : World} {B : List Res} {M q : Nat} {n : Net}
theorem Held.ropen (h : Held w0 w (rRef M q n :: B)) : ∃ vl zs, zs.map (·.1) = n.conns ∧ Held w0 w (rBlk q 58 #[vl, .int .i64 n.last] :: rOwn 88 vl (zs.map (·.2)) :: rBig (refLoc M) zs :: B) := by
  obtain ⟨⟨vl, zs⟩, hz, h1⟩ := Held.open_some (l1 := []) h
  exact ⟨vl, zs, hz, h1⟩
theorem Held.rshut {vl : Value} {zs : List ((Int × Conn) × Value)} (hz : zs.map (·.1) = n.conns) (h : Held w0 w (rBlk q 58 #[vl, .int .i64 n.last] :: rOwn 88 vl (zs.map (·.2)) :: rBig (refLoc M) zs :: B)) : Held w0 w (rRef M q n :: B) :=
  Held.close_some (l1 := []) (vl, zs) hz h
/-- one of the connections, looked at. -/
theorem ref_at {zs : List ((Int × Conn) × Value)} (h : Held w0 w (rBig (refLoc M) zs :: B)) {z : (Int × Conn) × Value} (hz : z ∈ zs) :
    ∃ r : RefIn, z.2 = .pointer (some ⟨r.b, 0, none⟩) ∧ RefOk M z.1.2 r ∧ Blk w r.b 94 (refCells z.1.1 z.1.2 r) ∧ (∃ A c, r.v0 = .slice A r.s0.length c ∧ r.s0.length ≤ c ∧ c ≤ 9223372036854775807) ∧ (∃ A c, r.v1 = .slice A r.s1.length c ∧ r.s1.length ≤ c ∧ c ≤ 9223372036854775807) := by
  obtain ⟨l1, l2, rfl⟩ := List.append_of_mem hz
  have h1 := Held.big_split (l1 := []) (refLoc M) h
  have h2 := Held.big_uncons (l1 := [rBig (refLoc M) l1]) (refLoc M) h1
  obtain ⟨r, ⟨hv, ho⟩, h3⟩ := Held.open_some (l1 := [rBig (refLoc M) l1]) (q := fun r : RefIn => z.2 = .pointer (some ⟨r.b, 0, none⟩) ∧ RefOk M z.1.2 r) (Rs' := fun r => [rBlk r.b 94 (refCells z.1.1 z.1.2 r), rBytes r.v0 r.s0, rBytes r.v1 r.s1]) h2
  exact ⟨r, hv, ho, Held.blk (l1 := [_]) h3, Held.form (l1 := [_, _]) h3, Held.form (l1 := [_, _, _]) h3⟩
end

/-- which pointer a number leads to. -/
def findZ (zs : List ((Int × Conn) × Value)) (id : Int) : Option ((Int × Conn) × Value) := zs.find? (·.1.1 == id)
def findV (zs : List ((Int × Conn) × Value)) (id : Int) : Value := match findZ zs id with | none => .pointer none | some z => z.2

set_option maxRecDepth 100000 in
set_option maxHeartbeats 1000000 in
theorem find_any (w : World) (q : Nat) (vl : Value) (zs : List ((Int × Conn) × Value)) (id : Int) (hc : w.cell? ⟨q, 0, none⟩ = some vl) (hr : Rd (fun _ => True) w vl (zs.map (·.2)))
    (hz : ∀ z ∈ zs, ∃ b, z.2 = .pointer (some ⟨b, 0, none⟩) ∧ w.cell? ⟨b, 0, none⟩ = some (.int .i64 z.1.1)) :
    Calls Try.prog 54 #[.pointer (some ⟨q, 0, none⟩), .int .i64 id] w fun e w' => e = .returned (findV zs id) ∧ w = w' := by
  obtain ⟨A, c, rfl, l1, l2, hA⟩ := hr
  rw [List.length_map] at l1 hc
  unfold maxLen at l2
  have HA := hid (And.intro hA hz)
  clear hA hz
  go_enter Try.func54, Try.ntmps54
  go_wp2_with fail
  go_loop [12] (fun iv => ∃ k : Nat, k ≤ zs.length ∧ iv = .int .i64 k ∧ findZ zs id = findZ (zs.drop k) id) (fun iv => zs.length - (intOf iv).toNat)
  case atStart => exact ⟨0, Nat.zero_le _, rfl, rfl⟩
  case round =>
    obtain ⟨k, hk, rfl, hf⟩ := hrel
    by_cases hlt : k < zs.length
    · have hne : zs.map (·.2) ≠ [] := by intro h; have := congrArg List.length h; simp at this; rw [this] at hlt; simp at hlt
      obtain ⟨b0, off, rfl, -, hcell⟩ := HA.out.1 hne
      have c1 := hcell k zs[k].2 (by rw [List.getElem?_map, List.getElem?_eq_getElem hlt]; rfl)
      obtain ⟨b, hb, c2⟩ := HA.out.2 zs[k] (List.getElem_mem hlt)
      rw [hb] at c1
      have HF := hid hf
      have hd : zs.drop k = zs[k] :: zs.drop (k + 1) := List.drop_eq_getElem_cons hlt
      by_cases he : zs[k].1.1 = id
      · have HV := hid (show findV zs id = .pointer (some ⟨b, 0, none⟩) by
          unfold findV
          rw [hf, hd]
          unfold findZ
          rw [List.find?_cons, show (zs[k].1.1 == id) = true by simpa using he]
          exact hb)
        have he1 : (zs[k].1.1 == id) = true := by simpa using he
        generalize zs[k].1.1 = i at *
        clear hf hd he hcell hb hne
        go_wp2_with fail
        go_ret
        rw [HV.out]
        exact ⟨rfl, rfl⟩
      · have HV := hid (show findZ zs id = findZ (zs.drop (k + 1)) id by
          rw [hf, hd]
          unfold findZ
          rw [List.find?_cons, show (zs[k].1.1 == id) = false by simpa using he])
        have he1 : (zs[k].1.1 == id) = false := by simpa using he
        generalize zs[k].1.1 = i at *
        clear hf hd he hcell hb hne
        go_wp2_with fail
        go_round
        case rel => first | exact ⟨k + 1, by omega, by go_num, HV.out⟩ | exact ⟨_, _, .int .i64 ((k + 1 : Nat) : Int), ⟨k + 1, by omega, rfl, HV.out⟩, rfl, rfl, by go_num⟩
        case measure => show zs.length - ((k : Int) + 1).toNat < zs.length - (k : Int).toNat; omega
    · have HV := hid (show findV zs id = .pointer none by
        unfold findV
        rw [hf, List.drop_eq_nil_of_le (by omega)]
        rfl)
      clear hf
      go_wp2_with fail
      go_ret
      rw [HV.out]
      exact ⟨rfl, rfl⟩

set_option maxRecDepth 100000 in
theorem rend_any (w : World) (b : Nat) (id : Int) (c : Conn) (r : RefIn) (node : Int) (hb : Blk w b 94 (refCells id c r)) :
    Calls Try.prog 45 #[.pointer (some ⟨b, 0, none⟩), .int .i64 node] w fun e w' => e = .returned (.int .i64 (c.end_ node)) ∧ w = w' := by
  have c1 : w.cell? ⟨b, 1, none⟩ = some (.int .i64 c.a) := hb.cell rfl
  have c2 : w.cell? ⟨b, 2, none⟩ = some (.int .i64 c.b) := hb.cell rfl
  clear hb
  by_cases h1 : c.a = node
  · have HE := hid (show c.end_ node = 0 by unfold Conn.end_; rw [if_pos h1])
    have e1 : (c.a == node) = true := by simpa using h1
    clear h1
    go_enter Try.func45, Try.ntmps45
    go_wp2_with fail
    refine wp_loop_rounds 1 ?_
    rw [rounds_succ]
    go_wp2_with fail
    go_ret
    rw [HE.out]
    exact ⟨rfl, rfl⟩
  · have e1 : (c.a == node) = false := by simpa using h1
    by_cases h2 : c.b = node
    · have HE := hid (show c.end_ node = 1 by unfold Conn.end_; rw [if_neg h1, if_pos h2])
      have e2 : (c.b == node) = true := by simpa using h2
      clear h1 h2
      go_enter Try.func45, Try.ntmps45
      go_wp2_with fail
      refine wp_loop_rounds 2 ?_
      rw [rounds_succ]
      go_wp2_with fail
      rw [rounds_succ]
      go_wp2_with fail
      go_ret
      rw [HE.out]
      exact ⟨rfl, rfl⟩
    · have HE := hid (show c.end_ node = -1 by unfold Conn.end_; rw [if_neg h1, if_neg h2])
      have e2 : (c.b == node) = false := by simpa using h2
      clear h1 h2
      go_enter Try.func45, Try.ntmps45
      go_wp2_with fail
      refine wp_loop_rounds 3 ?_
      rw [rounds_succ]
      go_wp2_with fail
      rw [rounds_succ]
      go_wp2_with fail
      rw [rounds_succ]
      go_wp2_with fail
      go_ret
      rw [HE.out]
      exact ⟨rfl, rfl⟩

set_option maxRecDepth 100000 in
theorem way_any (w : World) (b : Nat) (id : Int) (c : Conn) (r : RefIn) (i : Nat) (hi : i ≤ 1) {M : Nat} (hM : M ≤ 1000000000000) (hb : Blk w b 94 (refCells id c r)) (ho : RefOk M c r)
    (hv0 : ∃ A k, r.v0 = .slice A r.s0.length k ∧ r.s0.length ≤ k ∧ k ≤ 9223372036854775807) (hv1 : ∃ A k, r.v1 = .slice A r.s1.length k ∧ r.s1.length ≤ k ∧ k ≤ 9223372036854775807) :
    Calls Try.prog 55 #[.pointer (some ⟨b, 0, none⟩), .int .i64 i] w fun e w' => e = .returned (.int .i64 ((c.to (1 - (i : Int))).way.length : Nat)) ∧ ∃ m, w' = w.drewN m := by
  obtain ⟨A0, n0, e0, -, -⟩ := hv0
  obtain ⟨A1, n1, e1, -, -⟩ := hv1
  have hk0 := ho.k0
  have hk1 := ho.k1
  have hm0 := ho.m0
  have hm1 := ho.m1
  have c3 : w.cell? ⟨b, 3, none⟩ = some (.slice A0 r.s0.length n0) := by rw [← e0]; exact hb.cell rfl
  have c4 : w.cell? ⟨b, 4, none⟩ = some (.slice A1 r.s1.length n1) := by rw [← e1]; exact hb.cell rfl
  have c5 : w.cell? ⟨b, 5, none⟩ = some (.int .i64 r.k0) := hb.cell rfl
  have c6 : w.cell? ⟨b, 6, none⟩ = some (.int .i64 r.k1) := hb.cell rfl
  have hcase : i = 0 ∨ i = 1 := by omega
  rcases hcase with rfl | rfl
  · have HE := hid (show (((c.to (1 - ((0 : Nat) : Int))).way.length : Nat) : Int) = (r.s0.length : Int) - r.k0 by
      show (((c.p1.way).length : Nat) : Int) = _
      rw [ho.w0, List.length_drop]
      omega)
    have hw : IntKind.i64.wrap ((r.s0.length : Int) - r.k0) = (r.s0.length : Int) - r.k0 := IntWalk.i64_in _ (by omega)
    clear hb ho e0 e1
    go_enter Try.func55, Try.ntmps55
    go_wp2_with fail
    go_quiet (fail)
    go_wp2_with fail
    go_ret
    rw [HE.out]
    exact ⟨rfl, _, rfl⟩
  · have HE := hid (show (((c.to (1 - ((1 : Nat) : Int))).way.length : Nat) : Int) = (r.s1.length : Int) - r.k1 by
      show (((c.p0.way).length : Nat) : Int) = _
      rw [ho.w1, List.length_drop]
      omega)
    have hw : IntKind.i64.wrap ((r.s1.length : Int) - r.k1) = (r.s1.length : Int) - r.k1 := IntWalk.i64_in _ (by omega)
    clear hb ho e0 e1
    go_enter Try.func55, Try.ntmps55
    go_wp2_with fail
    go_quiet (fail)
    go_wp2_with fail
    go_ret
    rw [HE.out]
    exact ⟨rfl, _, rfl⟩
end Go.Proofs.Ytcdeknbbeghljaa
