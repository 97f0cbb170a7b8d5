/- tells; what it tells hangs on the connection alone. -/
import Derived.Test.YtcdeknbbeghljaaR14
namespace Go.Proofs.Ytcdeknbbeghljaa
open Go.RowKit
open Link

def toldRow (n : Net) (id : Int) : List Value := [.int .i64 (n.ends id).1, .int .i64 (n.ends id).2.1, .int .i64 (n.waiting id (n.ends id).1).1, .int .i64 (n.waiting id (n.ends id).2.1).1, .int .i64 (n.ends id).2.2, .bool (n.done id (n.ends id).1), .bool (n.done id (n.ends id).2.1)]
theorem told_get {n m : Net} {id : Int} (h : m.get id = n.get id) : toldRow m id = toldRow n id := by
  have h1 : m.ends id = n.ends id := by unfold Net.ends; rw [h]
  have h2 : ∀ x, m.waiting id x = n.waiting id x := fun x => by unfold Net.waiting; rw [h]
  have h3 : ∀ x, m.done id x = n.done id x := fun x => by unfold Net.done; rw [h]
  unfold toldRow
  rw [h1, h2, h2, h3, h3]
theorem told_one (n : Net) (id : Int) : ∀ u ∈ toldRow n id, u.oneCell' = true := by
  intro u hu
  unfold toldRow at hu
  simp only [List.mem_cons, List.not_mem_nil, or_false] at hu
  rcases hu with rfl | rfl | rfl | rfl | rfl | rfl | rfl <;> rfl
theorem tells_end {w0 w : World} {B : List Res} {b : Nat} {x0 x1 x2 x3 x4 x5 x6 y0 y1 y2 y3 y4 y5 y6 : Value} (h : Held w0 w (rBlk b 64 #[y0, y1, y2, y3, y4, y5, y6] :: B)) :
    Held w0 (((((((w.setCell ⟨b, 0, none⟩ x0).setCell ⟨b, 1, none⟩ x1).setCell ⟨b, 2, none⟩ x2).setCell ⟨b, 3, none⟩ x3).setCell ⟨b, 4, none⟩ x4).setCell ⟨b, 5, none⟩ x5).setCell ⟨b, 6, none⟩ x6) (rBlk b 64 #[x0, x1, x2, x3, x4, x5, x6] :: B) := by
  have h0 := Held.store (l1 := []) h 0 x0
  have h1 := Held.store (l1 := []) h0 1 x1
  have h2 := Held.store (l1 := []) h1 2 x2
  have h3 := Held.store (l1 := []) h2 3 x3
  have h4 := Held.store (l1 := []) h3 4 x4
  have h5 := Held.store (l1 := []) h4 5 x5
  have h6 := Held.store (l1 := []) h5 6 x6
  simpa using h6
theorem tells_res {W : World} {b : Nat} {tmps cs : Array Value} (hb : Blk W b 64 cs) (h4 : tmps.getD 4 undef = .pointer (some ⟨b, 0, none⟩)) (hs : cs.size = 7) : (results Try.f29 tmps).run Try.prog W = .ok (.agg cs) W := by
  have hr : Try.f29.results = #[.cell 4 64] := rfl
  have hl := run_loadVar_row (P := Try.prog) W b 64 64 cs (0, 0) _ hb Try.underlying64 rfl (by rw [hs]; kernel_rfl)
  have h4' : tmps[4]?.getD undef = .pointer (some ⟨b, 0, none⟩) := by simpa using h4
  unfold results
  rw [hr]
  simp [h4', asAddr, hl]

set_option maxRecDepth 100000 in
set_option maxHeartbeats 4000000 in
theorem tells_held {w0 w : World} {B : List Res} {p : Nat} {n : Net} (h : Held w0 w (rNet p n :: B)) (hok : n.Ok) (hl : n.last ≤ 1000000) (id : Int) (hwf : (Lit.int .i64 id).wf = true) :
    Calls Try.prog 29 #[.pointer (some ⟨p, 0, none⟩), .int .i64 id] w fun e w' => e = .returned (.agg (toldRow n id).toArray) ∧ Held w0 w' (rNet p n :: B) := by
  have g0 := h.block 64 #[.int .i64 0, .int .i64 0, .int .i64 0, .int .i64 0, .int .i64 0, .bool false, .bool false]
  have CE := hid (ends_held [_] _ g0 hok (by omega) id hwf)
  have HF := hid (And.intro hok hwf)
  have HR := hid (show toldRow n id = [.int .i64 (n.ends id).1, .int .i64 (n.ends id).2.1, .int .i64 (n.waiting id (n.ends id).1).1, .int .i64 (n.waiting id (n.ends id).2.1).1, .int .i64 (n.ends id).2.2, .bool (n.done id (n.ends id).1), .bool (n.done id (n.ends id).2.1)] from rfl)
  clear h g0 hok hwf
  go_enter Try.func29, Try.ntmps29
  go_wp2_with fail
  refine CE.out.mono ?_
  rintro e w1 ⟨rfl, g1⟩
  have CW := hid (waiting_held [_] _ g1 HF.out.1 (by omega) id (n.ends id).1 HF.out.2)
  have CX := hid (waiting_held [_] _ g1 HF.out.1 (by omega) id (n.ends id).2.1 HF.out.2)
  have CD := hid (done_held [_] _ g1 HF.out.1 (by omega) id (n.ends id).1 HF.out.2)
  have HD2 := hid (fun (w' : World) g => done_held (w := w') (w0 := w0) (p := p) (n := n) [rBlk w.heap.size 64 #[.int .i64 0, .int .i64 0, .int .i64 0, .int .i64 0, .int .i64 0, .bool false, .bool false]] B g HF.out.1 (by omega) id (n.ends id).2.1 HF.out.2)
  clear g1 CE
  generalize n.ends id = en at *
  generalize (n.waiting id en.1) = w0' at *
  generalize (n.waiting id en.2.1) = w1' at *
  generalize (n.done id en.1) = d0' at *
  generalize (n.done id en.2.1) = d1' at *
  obtain ⟨ea, eb, ee⟩ := en
  go_wp2_with fail
  refine CW.out.mono ?_
  rintro e w2 ⟨rfl, rfl⟩
  go_wp2_with fail
  refine CX.out.mono ?_
  rintro e w2 ⟨rfl, rfl⟩
  go_wp2_with fail
  refine CD.out.mono ?_
  rintro e w2 ⟨rfl, g2⟩
  have CD2 := hid (HD2.out w2 g2)
  clear g2 HD2 CD CX CW
  go_wp2_with fail
  refine CD2.out.mono ?_
  rintro e w3 ⟨rfl, g3⟩
  have b := Held.blk0 g3
  have c0 : w3.cell? ⟨w.heap.size, 0, none⟩ = some (.int .i64 0) := b.cell rfl
  have c1 : w3.cell? ⟨w.heap.size, 1, none⟩ = some (.int .i64 0) := b.cell rfl
  have c2 : w3.cell? ⟨w.heap.size, 2, none⟩ = some (.int .i64 0) := b.cell rfl
  have c3 : w3.cell? ⟨w.heap.size, 3, none⟩ = some (.int .i64 0) := b.cell rfl
  have c4 : w3.cell? ⟨w.heap.size, 4, none⟩ = some (.int .i64 0) := b.cell rfl
  have c5 : w3.cell? ⟨w.heap.size, 5, none⟩ = some (.bool false) := b.cell rfl
  have c6 : w3.cell? ⟨w.heap.size, 6, none⟩ = some (.bool false) := b.cell rfl
  have f0 := b.frozen 0
  have f1 := b.frozen 1
  have f2 := b.frozen 2
  have f3 := b.frozen 3
  have f4 := b.frozen 4
  have f5 := b.frozen 5
  have f6 := b.frozen 6
  have G3 := hid g3
  clear g3 CD2 b
  go_wp2_with fail
  have HE := tells_end (x0 := .int .i64 ea) (x1 := .int .i64 eb) (x2 := .int .i64 w0'.1) (x3 := .int .i64 w1'.1) (x4 := .int .i64 ee) (x5 := .bool d0') (x6 := .bool d1') G3.out
  refine bodyPost_ret (tells_res (Held.blk0 HE) rfl rfl) rfl ?_
  rw [HR.out]
  exact ⟨rfl, Held.drop0 HE⟩
end Go.Proofs.Ytcdeknbbeghljaa
