/- The reference's Dial, Send, Close. -/
import Derived.Test.YtcdeknbbeghljaaR4
import Derived.Test.YtcdeknbbeghljaaR6
import Derived.Deep.RegionLaw
namespace Go.Proofs.Ytcdeknbbeghljaa
open Go.RowKit
open Link

theorem refLoc_more {w0 w : World} {B : List Res} {M N p : Nat} {n : Net} (h : Held w0 w (rRef M p n :: B)) (hMN : M ≤ N) : Held w0 w (rRef N p n :: B) := h.rmore hMN
theorem held_empty {w0 w : World} {B : List Res} (h : Held w0 w B) (e : TypeId) : Held w0 (w.alloc (.cells #[] e)) (rOwn e (.slice (some ⟨w.heap.size, 0, none⟩) 0 0) [] :: B) :=
  h.more (F := [w.heap.size]) ⟨World.ownsRow_lit w #[] 0 (Nat.zero_le _) (by simp [maxLen]) (by simp), rfl⟩ ⟨(Mod.refl _ w).alloc _, by simp, fun b hb => .inr (by simp at hb; omega)⟩
theorem u8_zero : (Try.prog.info? 5).map (fun i => (i.zero, i.size, i.bytes)) = some (some (.int .u8 0), 1, 1) := by kernel_rfl
theorem bytes_one (l : Bytes) : ∀ v ∈ bytesV l, v.oneCell' = true := by
  intro v hv
  obtain ⟨x, -, rfl⟩ := List.mem_map.1 hv
  rfl

/-- behind the append of a new connection, and the store. -/
theorem dial_end {w0 w : World} {B : List Res} {M p : Nat} {zs : List ((Int × Conn) × Value)} {A : Option Addr} {c k b : Nat} {i x y last' : Int} {vl0 : Value}
    (h : Held w0 w (rBlk b 94 (refCells i ⟨x, y, ⟨[], false⟩, ⟨[], false⟩⟩ ⟨b, .slice none 0 0, .slice none 0 0, [], [], 0, 0⟩) :: rBlk p 58 #[vl0, .int .i64 last'] :: rOwn 88 (.slice A k c) (zs.map (·.2) ++ [.pointer (some ⟨b, 0, none⟩)]) :: rBig (refLoc M) zs :: B)) :
    Held w0 (w.setCell ⟨p, 0, none⟩ (.slice A k c)) (rRef M p ⟨zs.map (·.1) ++ [(i, ⟨x, y, ⟨[], false⟩, ⟨[], false⟩⟩)], last'⟩ :: B) := by
  have h1 := Held.store (l1 := [_]) h 0 (.slice A k c)
  have h2 := Held.pull2 ((h1.own_nil 5).own_nil 5)
  have h3 := Held.close_some (l1 := []) (q := fun r : RefIn => Value.pointer (some ⟨b, 0, none⟩) = .pointer (some ⟨r.b, 0, none⟩) ∧ RefOk M ⟨x, y, ⟨[], false⟩, ⟨[], false⟩⟩ r) (Rs' := fun r => [rBlk r.b 94 (refCells i ⟨x, y, ⟨[], false⟩, ⟨[], false⟩⟩ r), rBytes r.v0 r.s0, rBytes r.v1 r.s1]) ⟨b, .slice none 0 0, .slice none 0 0, [], [], 0, 0⟩ ⟨rfl, ⟨rfl, rfl, Nat.le_refl _, Nat.le_refl _, Nat.zero_le _, Nat.zero_le _⟩⟩ h2
  have h4 : Held w0 _ (Res.of (refLoc M) ((i, ⟨x, y, ⟨[], false⟩, ⟨[], false⟩⟩), .pointer (some ⟨b, 0, none⟩)) :: rBlk p 58 #[.slice A k c, .int .i64 last'] :: rOwn 88 (.slice A k c) (zs.map (·.2) ++ [.pointer (some ⟨b, 0, none⟩)]) :: rBig (refLoc M) zs :: B) := h3
  have h5 := Held.big_cons (l1 := []) (refLoc M) (Held.pull1 (Held.big_nil (refLoc M) h4))
  have h6 := Held.big_join (l1 := [_, _]) (refLoc M) (Held.push3 h5)
  refine Held.rshut (n := ⟨zs.map (·.1) ++ [(i, ⟨x, y, ⟨[], false⟩, ⟨[], false⟩⟩)], last'⟩) (zs := zs ++ [((i, ⟨x, y, ⟨[], false⟩, ⟨[], false⟩⟩), .pointer (some ⟨b, 0, none⟩))]) (vl := .slice A k c) (by simp) ?_
  rw [List.map_append]
  exact h6

set_option maxRecDepth 100000 in
set_option maxHeartbeats 2000000 in
theorem rdial_held {w0 w : World} {B : List Res} {M p : Nat} {n : Net} (h : Held w0 w (rRef M p n :: B)) (hok : n.Ok) (hlast : n.last ≤ 1000000000) (a b : Int) :
    Calls Try.prog 40 #[.pointer (some ⟨p, 0, none⟩), .int .i64 a, .int .i64 b] w fun e w' => e = .returned (.tuple #[.int .i64 (n.dial a b).2.1, .int .i64 (n.dial a b).2.2]) ∧ Held w0 w' (rRef M p (n.dial a b).1 :: B) := by
  have hl0 := hok.low
  by_cases hbad : a = b ∨ a < 0 ∨ b < 0 ∨ 15 < a ∨ 15 < b
  · have HC := hid (show n.dial a b = (n, 0, 1) by unfold Net.dial; rw [if_pos (by omega)])
    have H := hid h
    clear h hok hl0 hlast
    have hcase : (a == b) = true ∨ ((a == b) = false ∧ decide (a < 0) = true) ∨ ((a == b) = false ∧ decide (a < 0) = false ∧ decide (b < 0) = true) ∨ ((a == b) = false ∧ decide (a < 0) = false ∧ decide (b < 0) = false ∧ decide (15 < a) = true) ∨ ((a == b) = false ∧ decide (a < 0) = false ∧ decide (b < 0) = false ∧ decide (15 < a) = false ∧ decide (15 < b) = true) := by
      by_cases e1 : a = b
      · simp [e1]
      · by_cases e2 : a < 0
        · simp [e1, e2]
        · by_cases e3 : b < 0
          · simp [e1, e2, e3]
          · by_cases e4 : 15 < a
            · simp [e1, e2, e3, e4]
            · simp [e1, e2, e3, e4]
              omega
    clear hbad
    rcases hcase with g1 | ⟨g1, g2⟩ | ⟨g1, g2, g3⟩ | ⟨g1, g2, g3, g4⟩ | ⟨g1, g2, g3, g4, g5⟩
    all_goals
      go_enter Try.func40, Try.ntmps40
      go_wp2_with fail
      go_ret2
      rw [HC.out]
      exact ⟨rfl, H.out⟩
  · have g1 : (a == b) = false := by simp; omega
    have g2 : decide (a < 0) = false := by simp; omega
    have g3 : decide (b < 0) = false := by simp; omega
    have g4 : decide (15 < a) = false := by simp; omega
    have g5 : decide (15 < b) = false := by simp; omega
    have HB := hid hbad
    clear hbad
    obtain ⟨vl, zs, hz, h1⟩ := h.ropen
    have hzl : zs.length = n.conns.length := by have := congrArg List.length hz; simpa using this
    have c0 : w.cell? ⟨p, 0, none⟩ = some vl := (Held.blk0 h1).cell rfl
    have c1 : w.cell? ⟨p, 1, none⟩ = some (.int .i64 n.last) := (Held.blk0 h1).cell rfl
    obtain ⟨A, c, hv, l1, l2⟩ := Held.own_form0 (Held.pull1 h1)
    rw [List.length_map] at hv l1
    have hfew := hok.few
    by_cases hfull : 64 ≤ zs.length
    · have HC := hid (show n.dial a b = (n, 0, 7) by unfold Net.dial; rw [if_neg (by have := HB.out; omega), if_pos (by omega)])
      have H := hid h
      have hf : decide ((64 : Int) ≤ (zs.length : Int)) = true := by simp; omega
      subst hv
      clear h h1 hz hok hfew hzl
      go_enter Try.func40, Try.ntmps40
      go_wp2_with fail
      go_ret2
      rw [HC.out]
      exact ⟨rfl, H.out⟩
    · have HC := hid (show n.dial a b = ({ conns := n.conns ++ [(n.last + 1, ⟨a, b, ⟨[], false⟩, ⟨[], false⟩⟩)], last := n.last + 1 }, n.last + 1, 0) by unfold Net.dial; rw [if_neg (by have := HB.out; omega), if_neg (by omega)])
      have hf : decide ((64 : Int) ≤ (zs.length : Int)) = false := by simp; omega
      have hw1 : IntKind.i64.wrap (n.last + 1) = n.last + 1 := by rw [IntKind.wrap_i64]; omega
      have f1 : w.frozen? ⟨p, 1, none⟩ = false := (Held.blk0 h1).frozen 1
      have hs := Held.store (l1 := []) h1 1 (.int .i64 (n.last + 1))
      rw [← hz] at HC
      subst hv
      have h2 : Held w0 (w.setCell ⟨p, 1, none⟩ (.int .i64 (n.last + 1))) (rBlk p 58 #[.slice A zs.length c, .int .i64 (n.last + 1)] :: rOwn 88 (.slice A zs.length c) (zs.map (·.2)) :: rBig (refLoc M) zs :: B) := hs
      have hzf : zs.length < 64 := by omega
      obtain ⟨iA, iz, is, ib, iy⟩ := info_parts Try.infoConnPtr
      have HI := hid (And.intro iz (And.intro is (And.intro ib iy)))
      have HFR := hid f1
      have HW := hid hw1
      clear h h1 hz hok hs hfew hfull hzl iz is ib iy
      go_enter Try.func40, Try.ntmps40
      go_wp2_with fail
      clear c0 c1 f1
      generalize w.setCell ⟨p, 1, none⟩ (.int .i64 (n.last + 1)) = w1 at *
      have d0 : w1.cell? ⟨p, 0, none⟩ = some (.slice A zs.length c) := (Held.blk0 h2).cell rfl
      have d1 : w1.cell? ⟨p, 1, none⟩ = some (.int .i64 (n.last + 1)) := (Held.blk0 h2).cell rfl
      have d0' : ∀ o, (w1.alloc o).cell? ⟨p, 0, none⟩ = some (.slice A zs.length c) := fun o => ((Held.blk0 h2).alloc o).cell rfl
      have d0'' : ∀ o o', ((w1.alloc o).alloc o').cell? ⟨p, 0, none⟩ = some (.slice A zs.length c) := fun o o' => (((Held.blk0 h2).alloc o).alloc o').cell rfl
      obtain ⟨X, hX⟩ : ∃ X : Obj, X = .cells #[.int .i64 (n.last + 1), .int .i64 a, .int .i64 b, .slice none 0 0, .slice none 0 0, .int .i64 0, .int .i64 0, .bool false, .bool false] 94 := ⟨_, rfl⟩
      have hg1 : ∀ w1 : World, Held w0 w1 (rBlk p 58 #[.slice A zs.length c, .int .i64 (n.last + 1)] :: rOwn 88 (.slice A zs.length c) (zs.map (·.2)) :: rBig (refLoc M) zs :: B) → Held w0 ((w1.alloc X).alloc (.cells #[.pointer (some ⟨w1.heap.size, 0, none⟩)] 88)) ([rBlk w1.heap.size 94 (refCells (n.last + 1) ⟨a, b, ⟨[], false⟩, ⟨[], false⟩⟩ ⟨w1.heap.size, .slice none 0 0, .slice none 0 0, [], [], 0, 0⟩), rBlk p 58 #[.slice A zs.length c, .int .i64 (n.last + 1)]] ++ rOwn 88 (.slice A zs.length c) (zs.map (·.2)) :: rBig (refLoc M) zs :: B) := by
        intro w1 h
        subst hX
        exact (h.block 94 _).alloc _
      have hr1 : ∀ w1 : World, Rd (· = w1.heap.size + 1) ((w1.alloc X).alloc (.cells #[.pointer (some ⟨w1.heap.size, 0, none⟩)] 88)) (.slice (some ⟨w1.heap.size + 1, 0, none⟩) 1 1) [.pointer (some ⟨w1.heap.size, 0, none⟩)] := by
        intro w1
        have h := Rd.newRow (w1.alloc X) 88 [.pointer (some ⟨w1.heap.size, 0, none⟩)] (0, 0) (by simp [maxLen])
        rw [World.size_alloc] at h
        exact h
      have HGA := hid (hg1 _ h2)
      have HGB := hid (hg1 _ h2.drew)
      have HRA := hid (hr1 w1)
      have HRB := hid (hr1 w1.drew)
      subst hX
      clear h2 hg1 hr1
      go_region_law (refine step_append_held [_, _] _ rfl _ _ 56 rfl 88 iA (.pointer none) 8 Try.underlying56 HI.out.1 HI.out.2.1 HI.out.2.2.1 HI.out.2.2.2 rfl (.slice A zs.length c) (zs.map (·.2)) rfl (by first | exact HGA.out | exact HGB.out) _ _ [.pointer (some ⟨w1.heap.size, 0, none⟩)] rfl (by first | exact HRA.out | exact HRB.out) (one_ptr _ ⟨_, rfl⟩) (by rw [List.length_map]; simp; omega) (by rw [List.length_map]; unfold maxLen; simp; omega) ?_; intro A' c' w2 q1 q2 g3; rw [List.length_map] at g3 q1; have hb3 := Held.blk0 (Held.pull1 g3); have hf3 := hb3.frozen 0; have hc3 := hb3.cell (i := 0) rfl; have hc4 := hb3.cell (i := 1) rfl; have G3 := hid g3; clear g3 hb3)
      all_goals
        have HE := hid (dial_end G3.out)
        have e1 : (w2.setCell ⟨p, 0, none⟩ (.slice A' (zs.length + 1) c')).cell? ⟨p, 1, none⟩ = some (.int .i64 (n.last + 1)) := by
          have hb := Held.store (l1 := [_]) G3.out 0 (.slice A' (zs.length + 1) c')
          exact (Held.blk0 (Held.pull1 hb)).cell rfl
        clear G3 hf3 hc3 hc4
        generalize w2.setCell ⟨p, 0, none⟩ (.slice A' (zs.length + 1) c') = w3 at *
        go_wp2_with fail
        go_ret2
        rw [HC.out]
        exact ⟨rfl, HE.out⟩

set_option maxRecDepth 100000 in
set_option maxHeartbeats 2000000 in
theorem rclose_held {w0 w : World} {B : List Res} {M p : Nat} {n : Net} (h : Held w0 w (rRef M p n :: B)) (hok : n.Ok) (hlive : n.Live) (hM : M ≤ 1000000000000) (id node : Int) :
    Calls Try.prog 43 #[.pointer (some ⟨p, 0, none⟩), .int .i64 id, .int .i64 node] w fun e w' => e = .returned (.int .i64 (n.close id node).2) ∧ Held w0 w' (rRef M p (n.close id node).1 :: B) := by
  obtain ⟨vl, zs, hz, h1⟩ := h.ropen
  have HF := hid (rfind_held h1 id)
  have hg := find_get hz id
  have ha := hok.apart
  cases hf : findZ zs id with
  | none =>
    rw [hf] at hg
    have HC := hid (show n.close id node = (n, 30) by unfold Net.close; rw [← hg]; rfl)
    have hfv : findV zs id = .pointer none := by unfold findV; rw [hf]
    rw [hfv] at HF
    have H := hid h
    clear h h1 hz hg hf hfv ha hok
    go_enter Try.func43, Try.ntmps43
    go_wp2_with fail
    refine HF.out.mono ?_
    rintro e w1 ⟨rfl, rfl⟩
    go_wp2_with fail
    go_ret
    rw [HC.out]
    exact ⟨rfl, H.out⟩
  | some z =>
    rw [hf] at hg
    have hget : n.get id = some z.1.2 := by rw [← hg]; rfl
    obtain ⟨hzm, hzid⟩ := findZ_mem hf
    obtain ⟨z1, z2, r, hs, hv, ho, hF⟩ := rfocus h1 hzm
    have hfv : findV zs id = .pointer (some ⟨r.b, 0, none⟩) := by unfold findV; rw [hf]; exact hv
    rw [hfv] at HF
    have hb := Held.blk0 hF
    obtain ⟨A0, k0, hv0, m0, m0'⟩ := Held.form (l1 := [_]) hF
    obtain ⟨A1, k1, hv1, m1, m1'⟩ := Held.form (l1 := [_, _]) hF
    have E0 := hid (rend_any w r.b z.1.1 z.1.2 r node hb)
    have H := hid h
    subst hs
    clear h h1 hg hf hfv hzm
    rcases Link.end_cases z.1.2 node with he | he | he
    · cases hsh : z.1.2.p1.shut with
      | true =>
        have HC := hid (show n.close id node = (n, 31) by unfold Net.close; rw [hget]; simp only [he]; rw [if_neg (by decide), if_pos (show (z.1.2.to (1 - 0)).shut = true from hsh)])
        have b7 : w.cell? ⟨r.b, 7, none⟩ = some (.bool true) := by rw [← hsh]; exact hb.cell rfl
        rw [he] at E0
        clear hz hget hzid hv ho hF hb hsh he ha hok hlive
        go_enter Try.func43, Try.ntmps43
        go_wp2_with fail
        refine HF.out.mono ?_
        rintro e w1 ⟨rfl, rfl⟩
        go_wp2_with fail
        refine E0.out.mono ?_
        rintro e w1 ⟨rfl, rfl⟩
        go_wp2_with fail
        go_ret
        rw [HC.out]
        exact ⟨rfl, H.out⟩
      | false =>
        have HC := hid (show n.close id node = (n.rest id { z.1.2 with p1 := { z.1.2.p1 with shut := true } }, 0) by unfold Net.close; rw [hget]; simp only [he]; rw [if_neg (by decide), if_neg (show ¬ (z.1.2.to (1 - 0)).shut = true from by show ¬ z.1.2.p1.shut = true; rw [hsh]; simp)]; rfl)
        have b7 : w.cell? ⟨r.b, 7, none⟩ = some (.bool false) := by rw [← hsh]; exact hb.cell rfl
        have b7' : w.frozen? ⟨r.b, 7, none⟩ = false := hb.frozen 7
        have hst : Held w0 (w.setCell ⟨r.b, 7, none⟩ (.bool true)) (rBlk r.b 94 (refCells z.1.1 { z.1.2 with p1 := { z.1.2.p1 with shut := true } } r) :: _) := Held.store (l1 := []) hF 7 (.bool true)
        have hbk := rback (c' := { z.1.2 with p1 := { z.1.2.p1 with shut := true } }) hz ha hv ⟨ho.w0, ho.w1, ho.k0, ho.k1, ho.m0, ho.m1⟩ hst
        rw [hzid] at hbk
        have HK := hid (rkeep_held hbk hM (by have := hok.few; show (List.map _ _).length ≤ 1000; rw [List.length_map]; omega))
        have HE := hid (keep_rest (c' := { z.1.2 with p1 := { z.1.2.p1 with shut := true } }) hlive ha hget)
        rw [he] at E0
        clear hz hget hzid hv ho hF hb hsh he ha hok hlive hst hbk
        go_enter Try.func43, Try.ntmps43
        go_wp2_with fail
        refine HF.out.mono ?_
        rintro e w1 ⟨rfl, rfl⟩
        go_wp2_with fail
        refine E0.out.mono ?_
        rintro e w1 ⟨rfl, rfl⟩
        go_wp2_with fail
        refine HK.out.mono ?_
        rintro e w1 ⟨rfl, g1⟩
        have G1 := hid g1
        clear g1 HK
        go_wp2_with fail
        go_ret
        rw [HC.out]
        have g1 := G1.out
        rw [HE.out] at g1
        exact ⟨rfl, g1⟩
    · cases hsh : z.1.2.p0.shut with
      | true =>
        have HC := hid (show n.close id node = (n, 31) by unfold Net.close; rw [hget]; simp only [he]; rw [if_neg (by decide), if_pos (show (z.1.2.to (1 - 1)).shut = true from hsh)])
        have b7 : w.cell? ⟨r.b, 8, none⟩ = some (.bool true) := by rw [← hsh]; exact hb.cell rfl
        rw [he] at E0
        clear hz hget hzid hv ho hF hb hsh he ha hok hlive
        go_enter Try.func43, Try.ntmps43
        go_wp2_with fail
        refine HF.out.mono ?_
        rintro e w1 ⟨rfl, rfl⟩
        go_wp2_with fail
        refine E0.out.mono ?_
        rintro e w1 ⟨rfl, rfl⟩
        go_wp2_with fail
        go_ret
        rw [HC.out]
        exact ⟨rfl, H.out⟩
      | false =>
        have HC := hid (show n.close id node = (n.rest id { z.1.2 with p0 := { z.1.2.p0 with shut := true } }, 0) by unfold Net.close; rw [hget]; simp only [he]; rw [if_neg (by decide), if_neg (show ¬ (z.1.2.to (1 - 1)).shut = true from by show ¬ z.1.2.p0.shut = true; rw [hsh]; simp)]; rfl)
        have b7 : w.cell? ⟨r.b, 8, none⟩ = some (.bool false) := by rw [← hsh]; exact hb.cell rfl
        have b7' : w.frozen? ⟨r.b, 8, none⟩ = false := hb.frozen 8
        have hst : Held w0 (w.setCell ⟨r.b, 8, none⟩ (.bool true)) (rBlk r.b 94 (refCells z.1.1 { z.1.2 with p0 := { z.1.2.p0 with shut := true } } r) :: _) := Held.store (l1 := []) hF 8 (.bool true)
        have hbk := rback (c' := { z.1.2 with p0 := { z.1.2.p0 with shut := true } }) hz ha hv ⟨ho.w0, ho.w1, ho.k0, ho.k1, ho.m0, ho.m1⟩ hst
        rw [hzid] at hbk
        have HK := hid (rkeep_held hbk hM (by have := hok.few; show (List.map _ _).length ≤ 1000; rw [List.length_map]; omega))
        have HE := hid (keep_rest (c' := { z.1.2 with p0 := { z.1.2.p0 with shut := true } }) hlive ha hget)
        rw [he] at E0
        clear hz hget hzid hv ho hF hb hsh he ha hok hlive hst hbk
        go_enter Try.func43, Try.ntmps43
        go_wp2_with fail
        refine HF.out.mono ?_
        rintro e w1 ⟨rfl, rfl⟩
        go_wp2_with fail
        refine E0.out.mono ?_
        rintro e w1 ⟨rfl, rfl⟩
        go_wp2_with fail
        refine HK.out.mono ?_
        rintro e w1 ⟨rfl, g1⟩
        have G1 := hid g1
        clear g1 HK
        go_wp2_with fail
        go_ret
        rw [HC.out]
        have g1 := G1.out
        rw [HE.out] at g1
        exact ⟨rfl, g1⟩
    · have HC := hid (show n.close id node = (n, 1) by unfold Net.close; rw [hget]; simp only [he]; rfl)
      rw [he] at E0
      clear hz hget hzid hv ho hF hb he ha hok hlive
      go_enter Try.func43, Try.ntmps43
      go_wp2_with fail
      refine HF.out.mono ?_
      rintro e w1 ⟨rfl, rfl⟩
      go_wp2_with fail
      refine E0.out.mono ?_
      rintro e w1 ⟨rfl, rfl⟩
      go_wp2_with fail
      go_ret
      rw [HC.out]
      exact ⟨rfl, H.out⟩

theorem send_end0 {w0 w : World} {B : List Res} {M p : Nat} {n : Net} {z1 z2 : List ((Int × Conn) × Value)} {z : (Int × Conn) × Value} {r : RefIn} {vl v4 : Value} {bs : Bytes}
    (hz : (z1 ++ z :: z2).map (·.1) = n.conns) (ha : (n.conns.map (·.1)).Nodup) (hv : z.2 = .pointer (some ⟨r.b, 0, none⟩)) (ho : RefOk M z.1.2 r)
    (h : Held w0 w (rOwn 5 v4 (bytesV r.s0 ++ bytesV bs) :: rBlk r.b 94 (refCells z.1.1 z.1.2 r) :: rBytes r.v0 r.s0 :: rBytes r.v1 r.s1 :: rBlk p 58 #[vl, .int .i64 n.last] :: rOwn 88 vl ((z1 ++ z :: z2).map (·.2)) :: rBig (refLoc M) z1 :: rBig (refLoc M) z2 :: B)) :
    Held w0 (w.setCell ⟨r.b, 3, none⟩ v4) (rRef (M + bs.length) p (n.put z.1.1 { z.1.2 with p1 := { z.1.2.p1 with way := z.1.2.p1.way ++ bs } }) :: B) := by
  have h0 := Held.store (l1 := [_]) h 3 v4
  have h1 : Held w0 (w.setCell ⟨r.b, 3, none⟩ v4) (rBytes v4 (r.s0 ++ bs) :: rBlk r.b 94 (refCells z.1.1 { z.1.2 with p1 := { z.1.2.p1 with way := z.1.2.p1.way ++ bs } } { r with v0 := v4, s0 := r.s0 ++ bs }) :: rBytes r.v0 r.s0 :: rBytes r.v1 r.s1 :: rBlk p 58 #[vl, .int .i64 n.last] :: rOwn 88 vl ((z1 ++ z :: z2).map (·.2)) :: rBig (refLoc M) z1 :: rBig (refLoc M) z2 :: B) := by
    unfold rBytes
    rw [bytesV_append]
    exact h0
  have h2 := Held.pull1 (Held.drop0 (Held.pull2 h1))
  have h3 := Held.big_more (l1 := [_, _, _, _, _]) (N := M + bs.length) (by omega) h2
  have h4 := Held.big_more (l1 := [_, _, _, _, _, _]) (N := M + bs.length) (by omega) h3
  exact rback (r := { r with v0 := v4, s0 := r.s0 ++ bs }) (c' := { z.1.2 with p1 := { z.1.2.p1 with way := z.1.2.p1.way ++ bs } }) hz ha hv ⟨by show (z.1.2.p1.way ++ bs) = (r.s0 ++ bs).drop r.k0; rw [ho.w0, List.drop_append_of_le_length ho.k0], ho.w1, by show r.k0 ≤ (r.s0 ++ bs).length; rw [List.length_append]; have := ho.k0; omega, ho.k1, by show (r.s0 ++ bs).length ≤ M + bs.length; rw [List.length_append]; have := ho.m0; omega, Nat.le_trans ho.m1 (by omega)⟩ h4

theorem send_end1 {w0 w : World} {B : List Res} {M p : Nat} {n : Net} {z1 z2 : List ((Int × Conn) × Value)} {z : (Int × Conn) × Value} {r : RefIn} {vl v4 : Value} {bs : Bytes}
    (hz : (z1 ++ z :: z2).map (·.1) = n.conns) (ha : (n.conns.map (·.1)).Nodup) (hv : z.2 = .pointer (some ⟨r.b, 0, none⟩)) (ho : RefOk M z.1.2 r)
    (h : Held w0 w (rOwn 5 v4 (bytesV r.s1 ++ bytesV bs) :: rBlk r.b 94 (refCells z.1.1 z.1.2 r) :: rBytes r.v0 r.s0 :: rBytes r.v1 r.s1 :: rBlk p 58 #[vl, .int .i64 n.last] :: rOwn 88 vl ((z1 ++ z :: z2).map (·.2)) :: rBig (refLoc M) z1 :: rBig (refLoc M) z2 :: B)) :
    Held w0 (w.setCell ⟨r.b, 4, none⟩ v4) (rRef (M + bs.length) p (n.put z.1.1 { z.1.2 with p0 := { z.1.2.p0 with way := z.1.2.p0.way ++ bs } }) :: B) := by
  have h0 := Held.store (l1 := [_]) h 4 v4
  have h1 : Held w0 (w.setCell ⟨r.b, 4, none⟩ v4) (rBytes v4 (r.s1 ++ bs) :: rBlk r.b 94 (refCells z.1.1 { z.1.2 with p0 := { z.1.2.p0 with way := z.1.2.p0.way ++ bs } } { r with v1 := v4, s1 := r.s1 ++ bs }) :: rBytes r.v0 r.s0 :: rBytes r.v1 r.s1 :: rBlk p 58 #[vl, .int .i64 n.last] :: rOwn 88 vl ((z1 ++ z :: z2).map (·.2)) :: rBig (refLoc M) z1 :: rBig (refLoc M) z2 :: B) := by
    unfold rBytes
    rw [bytesV_append]
    exact h0
  have h2 := Held.push2 (Held.drop0 (Held.pull3 h1))
  have h3 := Held.big_more (l1 := [_, _, _, _, _]) (N := M + bs.length) (by omega) h2
  have h4 := Held.big_more (l1 := [_, _, _, _, _, _]) (N := M + bs.length) (by omega) h3
  exact rback (r := { r with v1 := v4, s1 := r.s1 ++ bs }) (c' := { z.1.2 with p0 := { z.1.2.p0 with way := z.1.2.p0.way ++ bs } }) hz ha hv ⟨ho.w0, by show (z.1.2.p0.way ++ bs) = (r.s1 ++ bs).drop r.k1; rw [ho.w1, List.drop_append_of_le_length ho.k1], ho.k0, by show r.k1 ≤ (r.s1 ++ bs).length; rw [List.length_append]; have := ho.k1; omega, Nat.le_trans ho.m0 (by omega), by show (r.s1 ++ bs).length ≤ M + bs.length; rw [List.length_append]; have := ho.m1; omega⟩ h4

set_option maxRecDepth 100000 in
set_option maxHeartbeats 2000000 in
theorem rsend_held {w0 w : World} {B : List Res} {M p : Nat} {n : Net} (h : Held w0 w (rRef M p n :: B)) (hok : n.Ok) (hM : M ≤ 1000000000000) (id node : Int) (bA : Option Addr) (bc : Nat) (bs : Bytes) (hbs : Rd (· < w0.heap.size) w0 (.slice bA bs.length bc) (bytesV bs)) (hbl : bs.length ≤ 1000000000) :
    Calls Try.prog 41 #[.pointer (some ⟨p, 0, none⟩), .int .i64 id, .int .i64 node, .slice bA bs.length bc] w fun e w' => e = .returned (.int .i64 (n.send id node bs).2) ∧ Held w0 w' (rRef (M + bs.length) p (n.send id node bs).1 :: B) := by
  have HV := hid hbs
  clear hbs
  obtain ⟨vl, zs, hz, h1⟩ := h.ropen
  have HF := hid (rfind_held h1 id)
  have hg := find_get hz id
  have ha := hok.apart
  cases hf : findZ zs id with
  | none =>
    rw [hf] at hg
    have HC := hid (show n.send id node bs = (n, 30) by unfold Net.send; rw [← hg]; rfl)
    have hfv : findV zs id = .pointer none := by unfold findV; rw [hf]
    rw [hfv] at HF
    have H := hid h
    clear h h1 hz hg hf hfv ha hok
    go_enter Try.func41, Try.ntmps41
    go_wp2_with fail
    refine HF.out.mono ?_
    rintro e w1 ⟨rfl, rfl⟩
    go_wp2_with fail
    go_ret
    rw [HC.out]
    exact ⟨rfl, H.out.rmore (Nat.le_add_right _ _)⟩
  | some z =>
    rw [hf] at hg
    have hget : n.get id = some z.1.2 := by rw [← hg]; rfl
    obtain ⟨hzm, hzid⟩ := findZ_mem hf
    obtain ⟨z1, z2, r, hs, hv, ho, hF⟩ := rfocus h1 hzm
    have hfv : findV zs id = .pointer (some ⟨r.b, 0, none⟩) := by unfold findV; rw [hf]; exact hv
    rw [hfv] at HF
    have hb := Held.blk0 hF
    obtain ⟨A0, k0, hv0, m0, m0'⟩ := Held.form (l1 := [_]) hF
    obtain ⟨A1, k1, hv1, m1, m1'⟩ := Held.form (l1 := [_, _]) hF
    have E0 := hid (rend_any w r.b z.1.1 z.1.2 r node hb)
    have H := hid h
    subst hs
    clear h h1 hg hf hfv hzm
    have hb3 : w.cell? ⟨r.b, 3, none⟩ = some r.v0 := hb.cell rfl
    have hb4 : w.cell? ⟨r.b, 4, none⟩ = some r.v1 := hb.cell rfl
    rw [hv0] at hb3
    rw [hv1] at hb4
    rcases Link.end_cases z.1.2 node with he | he | he
    · cases hsh : z.1.2.p1.shut with
      | true =>
        have HC := hid (show n.send id node bs = (n, 31) by unfold Net.send; rw [hget]; simp only [he]; rw [if_neg (by decide), if_pos (show (z.1.2.to (1 - 0)).shut = true from hsh)])
        have b7 : w.cell? ⟨r.b, 7, none⟩ = some (.bool true) := by rw [← hsh]; exact hb.cell rfl
        rw [he] at E0
        clear hz hget hzid hv ho hF hb hsh he ha hok hb3 hb4
        go_enter Try.func41, Try.ntmps41
        go_wp2_with fail
        refine HF.out.mono ?_
        rintro e w1 ⟨rfl, rfl⟩
        go_wp2_with fail
        refine E0.out.mono ?_
        rintro e w1 ⟨rfl, rfl⟩
        go_wp2_with fail
        go_ret
        rw [HC.out]
        exact ⟨rfl, H.out.rmore (Nat.le_add_right _ _)⟩
      | false =>
        have b7 : w.cell? ⟨r.b, 7, none⟩ = some (.bool false) := by rw [← hsh]; exact hb.cell rfl
        have W0 := hid (way_any w r.b z.1.1 z.1.2 r 0 (by omega) hM hb ho ⟨_, _, hv0, m0, m0'⟩ ⟨_, _, hv1, m1, m1'⟩)
        have q0 : (z.1.2.to (1 - ((0 : Nat) : Int))).way = z.1.2.p1.way := rfl
        rw [q0] at W0
        have hwl := (get_of hok hget).2.1
        obtain ⟨wl, hwl'⟩ : ∃ wl : Nat, wl = z.1.2.p1.way.length := ⟨_, rfl⟩
        rw [← hwl'] at W0 hwl
        have hw : IntKind.i64.wrap (131072 - (wl : Int)) = 131072 - (wl : Int) := by rw [IntKind.wrap_i64]; omega
        by_cases hfull : 131072 < wl + bs.length
        · have HC := hid (show n.send id node bs = (n, 7) by unfold Net.send; rw [hget]; simp only [he]; rw [if_neg (by decide), if_neg (show ¬ (z.1.2.to (1 - 0)).shut = true from by show ¬ z.1.2.p1.shut = true; rw [hsh]; simp), if_pos (by show 131072 < z.1.2.p1.way.length + bs.length; rw [← hwl']; exact hfull)])
          have hd : decide (131072 - (wl : Int) < (bs.length : Int)) = true := by simp; omega
          rw [he] at E0
          clear hz hget hzid hv ho hF hb hsh he ha hok hb3 hb4 q0 hfull hwl'
          go_enter Try.func41, Try.ntmps41
          go_wp2_with fail
          refine HF.out.mono ?_
          rintro e w1 ⟨rfl, rfl⟩
          go_wp2_with fail
          refine E0.out.mono ?_
          rintro e w1 ⟨rfl, rfl⟩
          go_wp2_with fail
          refine W0.out.mono ?_
          rintro e w1 ⟨rfl, m, rfl⟩
          go_wp2_with fail
          go_ret
          rw [HC.out]
          exact ⟨rfl, (H.out.drewN m).rmore (Nat.le_add_right _ _)⟩
        · have HC := hid (show n.send id node bs = (n.put id { z.1.2 with p1 := { z.1.2.p1 with way := z.1.2.p1.way ++ bs } }, 0) by unfold Net.send; rw [hget]; simp only [he]; rw [if_neg (by decide), if_neg (show ¬ (z.1.2.to (1 - 0)).shut = true from by show ¬ z.1.2.p1.shut = true; rw [hsh]; simp), if_neg (by show ¬ 131072 < z.1.2.p1.way.length + bs.length; rw [← hwl']; exact hfull)]; rfl)
          have hd : decide (131072 - (wl : Int) < (bs.length : Int)) = false := by simp; omega
          have hsl : r.s0.length ≤ 1000000000000 := Nat.le_trans ho.m0 hM
          have HB := hid (fun (w' : World) (v4 : Value) hx => send_end0 (w0 := w0) (w := w') (B := B) (p := p) (vl := vl) (v4 := v4) (bs := bs) hz ha hv ho hx)
          have HF2 := hid hF
          have HVV := hid (And.intro hv0 hv1)
          have HZI := hid hzid
          rw [he] at E0
          obtain ⟨iA, iz, is, ib, iy⟩ := info_parts u8_zero
          have HI := hid (And.intro iz (And.intro is (And.intro ib iy)))
          clear hz hget hzid hv ho hF hb hsh he ha hok q0 hfull hwl' H iz is ib iy hv0 hv1
          go_enter Try.func41, Try.ntmps41
          go_wp2_with fail
          refine HF.out.mono ?_
          rintro e w1 ⟨rfl, rfl⟩
          go_wp2_with fail
          refine E0.out.mono ?_
          rintro e w1 ⟨rfl, rfl⟩
          go_wp2_with fail
          refine W0.out.mono ?_
          rintro e w1 ⟨rfl, m, rfl⟩
          have HGA := hid (held_empty (HF2.out.drewN (m + 1)) 5)
          have HGB := hid (held_empty (HF2.out.drewN m).drew 5)
          have hbb : (w.drewN m).cell? ⟨r.b, 3, none⟩ = some (.slice A0 r.s0.length k0) := hb3
          have hbc : ∀ (q : Nat) (o : Obj), ((w.drewN q).alloc o).cell? ⟨r.b, 3, none⟩ = some (.slice A0 r.s0.length k0) := fun q o => by
            have := ((Held.blk0 (HF2.out.drewN q)).alloc o).cell (i := 3) rfl
            rw [this]
            exact congrArg some (HVV.out.1)
          go_wp2_with fail
          clear W0 E0 HF b7
          go_region_law (first
            | (refine step_append_held [] _ rfl _ _ 30 rfl 5 iA (.int .u8 0) 1 Try.underlying30 HI.out.1 HI.out.2.1 HI.out.2.2.1 HI.out.2.2.2 rfl (.slice (some ⟨w.heap.size, 0, none⟩) 0 0) [] rfl (by first | exact HGA.out | exact HGB.out) (fun _ => True) (.slice A0 r.s0.length k0) (bytesV r.s0) rfl (by rw [← HVV.out.1]; first | exact Held.own_rd (l1 := [_, _]) HGA.out | exact Held.own_rd (l1 := [_, _]) HGB.out) (bytes_one _) (by rw [bytesV_length]; simp; omega) (by rw [bytesV_length]; unfold maxLen; simp; omega) ?_; intro A3 c3 w3 q1 q2 g3; simp only [List.length_nil, bytesV_length, Nat.zero_add, List.nil_append] at g3 q1 ⊢; have G3 := hid g3; clear g3)
            | (refine step_append_held [] _ rfl _ _ 30 rfl 5 iA (.int .u8 0) 1 Try.underlying30 HI.out.1 HI.out.2.1 HI.out.2.2.1 HI.out.2.2.2 rfl (.slice A3 r.s0.length c3) (bytesV r.s0) rfl G3.out (· < w0.heap.size) (.slice bA bs.length bc) (bytesV bs) rfl (G3.out.rd HV.out) (bytes_one _) (by rw [bytesV_length, bytesV_length]; simp; omega) (by rw [bytesV_length, bytesV_length]; unfold maxLen; simp; omega) ?_; intro A4 c4 w4 q3 q4 g4; simp only [bytesV_length] at g4 q3 ⊢; have hb5 := Held.blk0 (Held.pull1 g4); have hf5 := hb5.frozen 3; have hc5 := hb5.cell (i := 3) rfl; have G4 := hid g4; clear g4 hb5))
          all_goals
            have HE := HB.out _ _ G4.out
            rw [HZI.out] at HE
            have HE := hid HE
            clear G4 G3 hf5 hc5 hbb hbc
            generalize w4.setCell ⟨r.b, 3, none⟩ _ = w5 at *
            go_wp2_with fail
            go_ret
            rw [HC.out]
            exact ⟨rfl, HE.out⟩
    · cases hsh : z.1.2.p0.shut with
      | true =>
        have HC := hid (show n.send id node bs = (n, 31) by unfold Net.send; rw [hget]; simp only [he]; rw [if_neg (by decide), if_pos (show (z.1.2.to (1 - 1)).shut = true from hsh)])
        have b7 : w.cell? ⟨r.b, 8, none⟩ = some (.bool true) := by rw [← hsh]; exact hb.cell rfl
        rw [he] at E0
        clear hz hget hzid hv ho hF hb hsh he ha hok hb3 hb4
        go_enter Try.func41, Try.ntmps41
        go_wp2_with fail
        refine HF.out.mono ?_
        rintro e w1 ⟨rfl, rfl⟩
        go_wp2_with fail
        refine E0.out.mono ?_
        rintro e w1 ⟨rfl, rfl⟩
        go_wp2_with fail
        go_ret
        rw [HC.out]
        exact ⟨rfl, H.out.rmore (Nat.le_add_right _ _)⟩
      | false =>
        have b7 : w.cell? ⟨r.b, 8, none⟩ = some (.bool false) := by rw [← hsh]; exact hb.cell rfl
        have W0 := hid (way_any w r.b z.1.1 z.1.2 r 1 (by omega) hM hb ho ⟨_, _, hv0, m0, m0'⟩ ⟨_, _, hv1, m1, m1'⟩)
        have q0 : (z.1.2.to (1 - ((1 : Nat) : Int))).way = z.1.2.p0.way := rfl
        rw [q0] at W0
        have hwl := (get_of hok hget).1
        obtain ⟨wl, hwl'⟩ : ∃ wl : Nat, wl = z.1.2.p0.way.length := ⟨_, rfl⟩
        rw [← hwl'] at W0 hwl
        have hw : IntKind.i64.wrap (131072 - (wl : Int)) = 131072 - (wl : Int) := by rw [IntKind.wrap_i64]; omega
        by_cases hfull : 131072 < wl + bs.length
        · have HC := hid (show n.send id node bs = (n, 7) by unfold Net.send; rw [hget]; simp only [he]; rw [if_neg (by decide), if_neg (show ¬ (z.1.2.to (1 - 1)).shut = true from by show ¬ z.1.2.p0.shut = true; rw [hsh]; simp), if_pos (by show 131072 < z.1.2.p0.way.length + bs.length; rw [← hwl']; exact hfull)])
          have hd : decide (131072 - (wl : Int) < (bs.length : Int)) = true := by simp; omega
          rw [he] at E0
          clear hz hget hzid hv ho hF hb hsh he ha hok hb3 hb4 q0 hfull hwl'
          go_enter Try.func41, Try.ntmps41
          go_wp2_with fail
          refine HF.out.mono ?_
          rintro e w1 ⟨rfl, rfl⟩
          go_wp2_with fail
          refine E0.out.mono ?_
          rintro e w1 ⟨rfl, rfl⟩
          go_wp2_with fail
          refine W0.out.mono ?_
          rintro e w1 ⟨rfl, m, rfl⟩
          go_wp2_with fail
          go_ret
          rw [HC.out]
          exact ⟨rfl, (H.out.drewN m).rmore (Nat.le_add_right _ _)⟩
        · have HC := hid (show n.send id node bs = (n.put id { z.1.2 with p0 := { z.1.2.p0 with way := z.1.2.p0.way ++ bs } }, 0) by unfold Net.send; rw [hget]; simp only [he]; rw [if_neg (by decide), if_neg (show ¬ (z.1.2.to (1 - 1)).shut = true from by show ¬ z.1.2.p0.shut = true; rw [hsh]; simp), if_neg (by show ¬ 131072 < z.1.2.p0.way.length + bs.length; rw [← hwl']; exact hfull)]; rfl)
          have hd : decide (131072 - (wl : Int) < (bs.length : Int)) = false := by simp; omega
          have hsl : r.s1.length ≤ 1000000000000 := Nat.le_trans ho.m1 hM
          have HB := hid (fun (w' : World) (v4 : Value) hx => send_end1 (w0 := w0) (w := w') (B := B) (p := p) (vl := vl) (v4 := v4) (bs := bs) hz ha hv ho hx)
          have HF2 := hid hF
          have HVV := hid (And.intro hv0 hv1)
          have HZI := hid hzid
          rw [he] at E0
          obtain ⟨iA, iz, is, ib, iy⟩ := info_parts u8_zero
          have HI := hid (And.intro iz (And.intro is (And.intro ib iy)))
          clear hz hget hzid hv ho hF hb hsh he ha hok q0 hfull hwl' H iz is ib iy hv0 hv1
          go_enter Try.func41, Try.ntmps41
          go_wp2_with fail
          refine HF.out.mono ?_
          rintro e w1 ⟨rfl, rfl⟩
          go_wp2_with fail
          refine E0.out.mono ?_
          rintro e w1 ⟨rfl, rfl⟩
          go_wp2_with fail
          refine W0.out.mono ?_
          rintro e w1 ⟨rfl, m, rfl⟩
          have HGA := hid (held_empty (HF2.out.drewN (m + 1)) 5)
          have HGB := hid (held_empty (HF2.out.drewN m).drew 5)
          have hbb : (w.drewN m).cell? ⟨r.b, 4, none⟩ = some (.slice A1 r.s1.length k1) := hb4
          have hbc : ∀ (q : Nat) (o : Obj), ((w.drewN q).alloc o).cell? ⟨r.b, 4, none⟩ = some (.slice A1 r.s1.length k1) := fun q o => by
            have := ((Held.blk0 (HF2.out.drewN q)).alloc o).cell (i := 4) rfl
            rw [this]
            exact congrArg some (HVV.out.2)
          go_wp2_with fail
          clear W0 E0 HF b7
          go_region_law (first
            | (refine step_append_held [] _ rfl _ _ 30 rfl 5 iA (.int .u8 0) 1 Try.underlying30 HI.out.1 HI.out.2.1 HI.out.2.2.1 HI.out.2.2.2 rfl (.slice (some ⟨w.heap.size, 0, none⟩) 0 0) [] rfl (by first | exact HGA.out | exact HGB.out) (fun _ => True) (.slice A1 r.s1.length k1) (bytesV r.s1) rfl (by rw [← HVV.out.2]; first | exact Held.own_rd (l1 := [_, _, _]) HGA.out | exact Held.own_rd (l1 := [_, _, _]) HGB.out) (bytes_one _) (by rw [bytesV_length]; simp; omega) (by rw [bytesV_length]; unfold maxLen; simp; omega) ?_; intro A3 c3 w3 q1 q2 g3; simp only [List.length_nil, bytesV_length, Nat.zero_add, List.nil_append] at g3 q1 ⊢; have G3 := hid g3; clear g3)
            | (refine step_append_held [] _ rfl _ _ 30 rfl 5 iA (.int .u8 0) 1 Try.underlying30 HI.out.1 HI.out.2.1 HI.out.2.2.1 HI.out.2.2.2 rfl (.slice A3 r.s1.length c3) (bytesV r.s1) rfl G3.out (· < w0.heap.size) (.slice bA bs.length bc) (bytesV bs) rfl (G3.out.rd HV.out) (bytes_one _) (by rw [bytesV_length, bytesV_length]; simp; omega) (by rw [bytesV_length, bytesV_length]; unfold maxLen; simp; omega) ?_; intro A4 c4 w4 q3 q4 g4; simp only [bytesV_length] at g4 q3 ⊢; have hb5 := Held.blk0 (Held.pull1 g4); have hf5 := hb5.frozen 4; have hc5 := hb5.cell (i := 4) rfl; have G4 := hid g4; clear g4 hb5))
          all_goals
            have HE := HB.out _ _ G4.out
            rw [HZI.out] at HE
            have HE := hid HE
            clear G4 G3 hf5 hc5 hbb hbc
            generalize w4.setCell ⟨r.b, 4, none⟩ _ = w5 at *
            go_wp2_with fail
            go_ret
            rw [HC.out]
            exact ⟨rfl, HE.out⟩
    · have HC := hid (show n.send id node bs = (n, 1) by unfold Net.send; rw [hget]; simp only [he]; rfl)
      rw [he] at E0
      clear hz hget hzid hv ho hF hb he ha hok hb3 hb4
      go_enter Try.func41, Try.ntmps41
      go_wp2_with fail
      refine HF.out.mono ?_
      rintro e w1 ⟨rfl, rfl⟩
      go_wp2_with fail
      refine E0.out.mono ?_
      rintro e w1 ⟨rfl, rfl⟩
      go_wp2_with fail
      go_ret
      rw [HC.out]
      exact ⟨rfl, H.out.rmore (Nat.le_add_right _ _)⟩

end Go.Proofs.Ytcdeknbbeghljaa
