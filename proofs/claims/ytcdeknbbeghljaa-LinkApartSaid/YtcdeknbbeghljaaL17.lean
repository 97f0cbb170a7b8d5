/- link: each call of a net that no call made; a call as an argument of its own. -/
import Derived.Test.YtcdeknbbeghljaaL16
import Derived.Test.YtcdeknbbeghljaaL11
namespace Go.Proofs.Ytcdeknbbeghljaa
open Go.ChangeShapes Go.WideShapes Go.ChangeAt Go.RowKit
open Link

set_option maxRecDepth 100000 in
theorem open_do {H : Type} {enc : TypeId × Value → H} {W : World} {base : Nat} {v : Value} {d : DataW H} {p : List MemPlace} (ok : Value.okWide Try.prog W .any base 33 v)
    (h : DataW.Trod enc Try.prog W 0 (fun _ => true) true 33 v d p) : ∃ (d : Do) (bA : Option Addr) (bc : Nat), v = .agg #[.int .i64 d.op, .int .i64 d.id, .int .i64 d.a, .int .i64 d.b, .slice bA d.bytes.length bc] ∧
      Rd (· < W.heap.size) W (.slice bA d.bytes.length bc) (bytesV d.bytes) ∧ d.Wf := by
  obtain ⟨cs, rfl, hsz⟩ := okWide_struct Try.underlying33 ok
  have k5 : Try.prog.cellsOf 33 = 5 := by kernel_rfl
  rw [k5] at hsz
  obtain ⟨n, ht⟩ := h
  obtain ⟨xs, m, rfl, _, _, hxl, hf⟩ := DataW.trod_struct Try.underlying33 ht
  obtain ⟨cs⟩ := cs
  simp only [List.size_toArray] at hsz
  match cs, hsz with
  | [c0, c1, c2, c3, c4], _ =>
    have get : ∀ (i : Nat) (hi : i < xs.length), xs[i]? = some xs[i] := fun i hi => List.getElem?_eq_getElem hi
    have hsz : xs.length = 5 := by rw [hxl]; rfl
    have f0 := hf 0 _ rfl
    have f1 := hf 1 _ rfl
    have f2 := hf 2 _ rfl
    have f3 := hf 3 _ rfl
    have f4 := hf 4 _ rfl
    have k1 : Try.prog.cellsOf 3 = 1 := by kernel_rfl
    have k2 : Try.prog.cellsOf 30 = 1 := by kernel_rfl
    simp only [Value.cells, List.getElem_toArray, List.getElem_cons_zero, List.getElem_cons_succ, k1, k2, List.drop_zero, List.drop_succ_cons, List.take_succ_cons, List.take_zero] at f0 f1 f2 f3 f4
    rw [get 0 (by omega)] at f0
    rw [get 1 (by omega)] at f1
    rw [get 2 (by omega)] at f2
    rw [get 3 (by omega)] at f3
    rw [get 4 (by omega)] at f4
    obtain ⟨a0, e0, _, w0⟩ := DataW.trod_int Try.underlying3 f0
    obtain ⟨a1, e1, _, w1⟩ := DataW.trod_int Try.underlying3 f1
    obtain ⟨a2, e2, _, w2⟩ := DataW.trod_int Try.underlying3 f2
    obtain ⟨a3, e3, _, w3⟩ := DataW.trod_int Try.underlying3 f3
    obtain ⟨bv, l, e4, hb⟩ := trod_bytes Try.underlying30 Try.underlying5 (by kernel_rfl) f4
    simp only [List.cons.injEq, and_true] at e0 e1 e2 e3 e4
    subst e0 e1 e2 e3 e4
    obtain ⟨bA, bc, rfl, _⟩ := id hb
    rw [bytesV_length] at hb ⊢
    exact ⟨⟨a0, a1, a2, a3, l⟩, bA, bc, rfl, hb, ⟨w0, w1, w2, w3⟩⟩

set_option maxRecDepth 100000 in
theorem dial_no (v : Value) (w : World) (a b : Int) (h : NotMade v w) : Calls Try.prog 13 #[v, .int .i64 a, .int .i64 b] w fun e w' => e = .returned (.tuple #[.int .i64 0, .int .i64 8]) ∧ Mod (fun _ => False) w w' := by
  have HM := hid (made_no v w h)
  clear h
  go_enter Try.func13, Try.ntmps13
  go_wp2_with (first | (go_at_call 30; refine HM.out.mono ?_; rintro e w' ⟨rfl, rfl⟩))
  go_ret2
  exact ⟨rfl, by repeat (first | exact Mod.refl _ _ | refine Mod.drewN ?_ _ | refine Mod.drew ?_)⟩

set_option maxRecDepth 100000 in
theorem send_no (v : Value) (w : World) (id node : Int) (u : Value) (h : NotMade v w) : Calls Try.prog 14 #[v, .int .i64 id, .int .i64 node, u] w fun e w' => e = .returned (.int .i64 8) ∧ Mod (fun _ => False) w w' := by
  have HL := hid (look_no v w id node h)
  clear h
  go_enter Try.func14, Try.ntmps14
  go_wp2_with (first | (go_at_call 31; refine HL.out.mono ?_; rintro e w' ⟨rfl, rfl⟩))
  go_ret
  exact ⟨rfl, by repeat (first | exact Mod.refl _ _ | refine Mod.drewN ?_ _ | refine Mod.drew ?_)⟩

set_option maxRecDepth 100000 in
theorem carry_no (v : Value) (w : World) (id node most : Int) (h : NotMade v w) : Calls Try.prog 15 #[v, .int .i64 id, .int .i64 node, .int .i64 most] w fun e w' => e = .returned (.tuple #[.slice none 0 0, .int .i64 8]) ∧ Mod (fun _ => False) w w' := by
  have HL := hid (look_no v w id node h)
  clear h
  go_enter Try.func15, Try.ntmps15
  go_wp2_with (first | (go_at_call 31; refine HL.out.mono ?_; rintro e w' ⟨rfl, rfl⟩))
  go_ret2
  exact ⟨rfl, by repeat (first | exact Mod.refl _ _ | refine Mod.drewN ?_ _ | refine Mod.drew ?_)⟩

set_option maxRecDepth 100000 in
theorem close_no (v : Value) (w : World) (id node : Int) (h : NotMade v w) : Calls Try.prog 16 #[v, .int .i64 id, .int .i64 node] w fun e w' => e = .returned (.int .i64 8) ∧ Mod (fun _ => False) w w' := by
  have HL := hid (look_no v w id node h)
  clear h
  go_enter Try.func16, Try.ntmps16
  go_wp2_with (first | (go_at_call 31; refine HL.out.mono ?_; rintro e w' ⟨rfl, rfl⟩))
  go_ret
  exact ⟨rfl, by repeat (first | exact Mod.refl _ _ | refine Mod.drewN ?_ _ | refine Mod.drew ?_)⟩

set_option maxRecDepth 100000 in
theorem cut_no (v : Value) (w : World) (id : Int) (h : NotMade v w) : Calls Try.prog 19 #[v, .int .i64 id] w fun e w' => e = .returned (.int .i64 8) ∧ Mod (fun _ => False) w w' := by
  have HM := hid (made_no v w h)
  clear h
  go_enter Try.func19, Try.ntmps19
  go_wp2_with (first | (go_at_call 30; refine HM.out.mono ?_; rintro e w' ⟨rfl, rfl⟩))
  go_ret
  exact ⟨rfl, by repeat (first | exact Mod.refl _ _ | refine Mod.drewN ?_ _ | refine Mod.drew ?_)⟩

set_option maxRecDepth 100000 in
theorem drop_no (v : Value) (w : World) (node : Int) (h : NotMade v w) : Calls Try.prog 24 #[v, .int .i64 node] w fun e w' => e = .returned (.int .i64 0) ∧ Mod (fun _ => False) w w' := by
  have HM := hid fun o => made_no v (w.alloc o) (h.step ((Mod.refl _ _).alloc o))
  clear h
  go_enter Try.func24, Try.ntmps24
  go_wp2_with (first | (go_at_call 30; refine (HM.out _).mono ?_; rintro e w' ⟨rfl, rfl⟩))
  go_ret
  exact ⟨rfl, by repeat (first | exact Mod.refl _ _ | refine Mod.alloc ?_ _ | refine Mod.drewN ?_ _ | refine Mod.drew ?_)⟩

set_option maxRecDepth 100000 in
theorem ends_no (v : Value) (w : World) (id : Int) (h : NotMade v w) : Calls Try.prog 22 #[v, .int .i64 id] w fun e w' => e = .returned (.tuple #[.int .i64 0, .int .i64 0, .int .i64 8]) ∧ Mod (fun _ => False) w w' := by
  have HM := hid (made_no v w h)
  clear h
  go_enter Try.func22, Try.ntmps22
  go_wp2_with (first | (go_at_call 30; refine HM.out.mono ?_; rintro e w' ⟨rfl, rfl⟩))
  go_ret3
  exact ⟨rfl, by repeat (first | exact Mod.refl _ _ | refine Mod.drewN ?_ _ | refine Mod.drew ?_)⟩

set_option maxRecDepth 100000 in
theorem waiting_no (v : Value) (w : World) (id node : Int) (h : NotMade v w) : Calls Try.prog 23 #[v, .int .i64 id, .int .i64 node] w fun e w' => e = .returned (.tuple #[.int .i64 0, .int .i64 8]) ∧ Mod (fun _ => False) w w' := by
  have HL := hid (look_no v w id node h)
  clear h
  go_enter Try.func23, Try.ntmps23
  go_wp2_with (first | (go_at_call 31; refine HL.out.mono ?_; rintro e w' ⟨rfl, rfl⟩))
  go_ret2
  exact ⟨rfl, by repeat (first | exact Mod.refl _ _ | refine Mod.drewN ?_ _ | refine Mod.drew ?_)⟩

set_option maxRecDepth 100000 in
theorem done_no (v : Value) (w : World) (id node : Int) (h : NotMade v w) : Calls Try.prog 25 #[v, .int .i64 id, .int .i64 node] w fun e w' => e = .returned (.bool true) ∧ Mod (fun _ => False) w w' := by
  have HL := hid (look_no v w id node h)
  clear h
  go_enter Try.func25, Try.ntmps25
  go_wp2_with (first | (go_at_call 31; refine HL.out.mono ?_; rintro e w' ⟨rfl, rfl⟩))
  go_ret
  exact ⟨rfl, by repeat (first | exact Mod.refl _ _ | refine Mod.drewN ?_ _ | refine Mod.drew ?_)⟩

set_option maxRecDepth 100000 in
theorem conns_no (v : Value) (w : World)  (h : NotMade v w) : Calls Try.prog 21 #[v] w fun e w' => e = .returned (.slice none 0 0) ∧ Mod (fun _ => False) w w' := by
  have HM := hid (made_no v w h)
  clear h
  go_enter Try.func21, Try.ntmps21
  go_wp2_with (first | (go_at_call 30; refine HM.out.mono ?_; rintro e w' ⟨rfl, rfl⟩))
  go_ret
  exact ⟨rfl, by repeat (first | exact Mod.refl _ _ | refine Mod.drewN ?_ _ | refine Mod.drew ?_)⟩
end Go.Proofs.Ytcdeknbbeghljaa
