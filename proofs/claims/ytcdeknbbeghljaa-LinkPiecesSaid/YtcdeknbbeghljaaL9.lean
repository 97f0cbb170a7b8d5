/- LinkPieces: the walk. -/
import Derived.Test.YtcdeknbbeghljaaL8
namespace Go.Proofs.Ytcdeknbbeghljaa
open Go.RowKit
open Link

theorem umod_small (k : Int) (n : Nat) (hn : n ≤ 1000000000) : ∃ m : Nat, wrap64 ((IntKind.u64.wrap k).tmod ((n : Int) + 1)) = m ∧ m ≤ n := by
  have h0 : 0 ≤ IntKind.u64.wrap k := by unfold IntKind.wrap IntKind.bits IntKind.signed; simp; omega
  have h1 : 0 ≤ (IntKind.u64.wrap k).tmod ((n : Int) + 1) := Int.tmod_nonneg _ h0
  have h2 : (IntKind.u64.wrap k).tmod ((n : Int) + 1) < (n : Int) + 1 := Int.tmod_lt_of_pos _ (by omega)
  refine ⟨((IntKind.u64.wrap k).tmod ((n : Int) + 1)).toNat, ?_, by omega⟩
  rw [Int.toNat_of_nonneg h1]
  unfold wrap64
  omega

set_option maxRecDepth 100000 in
set_option maxHeartbeats 8000000 in
theorem pieces_walk (w : World) (va vb : Value) (a b : List UInt8) (k : Int) (ha : Rd (· < w.heap.size) w va (bytesV a)) (hb : Rd (· < w.heap.size) w vb (bytesV b)) (hk : (Lit.int .i64 k).wf = true) :
    Calls Try.prog 4 #[va, vb, .int .i64 k] w fun e w' => e = .returned (.bool true) ∧ Below w.heap.size w w' := by
  obtain ⟨A, ca, hva, hca, hma, _⟩ := id ha
  obtain ⟨B, cb, hvb, hcb, hmb, _⟩ := id hb
  rw [bytesV_length] at hva hvb hca hcb
  subst hva hvb
  unfold maxLen at hma hmb
  have HA := hid ha
  have HB := hid hb
  clear ha hb
  by_cases hbig : 65536 < a.length ∨ 65536 < b.length
  · have HW := hid (awake_any w)
    have hd : 65536 < a.length ∨ (a.length ≤ 65536 ∧ 65536 < b.length) := by omega
    clear hbig
    rcases hd with h1 | ⟨h1, h2⟩
    all_goals
      go_enter Try.func4, Try.ntmps4
      go_wp2_with (first
        | (go_at_call 11; refine HW.out.mono ?_; rintro e w' ⟨rfl, hm⟩))
      go_ret
      exact ⟨rfl, hm.below (Nat.le_refl _) (fun _ _ h => h)⟩
  · have h1 : a.length ≤ 65536 := by omega
    have h2 : b.length ≤ 65536 := by omega
    clear hbig
    have H0 := hid (Held.begin w)
    go_enter Try.func4, Try.ntmps4
    go_wp2_with fail
    refine (new_held H0.out).mono ?_
    rintro e w1 ⟨p, rfl, g1⟩
    have H1 := hid g1
    clear g1
    go_wp2_with fail
    refine (new_held H1.out).mono ?_
    rintro e w2 ⟨q, rfl, g2⟩
    have H2 := hid (dial_held [rNet q Net.empty] [] g2 empty_ok (by decide) 3 2)
    rw [dial_one (by decide) (by decide) (by decide) (by decide) (by decide)] at H2
    clear g2
    go_wp2_with fail
    refine H2.out.mono ?_
    rintro e w3 ⟨rfl, g3⟩
    have H3 := hid (dial_held [] [rNet p (oneNet 3 2 [] [])] g3 empty_ok (by decide) 3 2)
    rw [dial_one (by decide) (by decide) (by decide) (by decide) (by decide)] at H3
    clear g3
    go_wp2_with fail
    refine H3.out.mono ?_
    rintro e w4 ⟨rfl, g4⟩
    have g5 := g4.alloc (.cells #[.slice A a.length ca, .slice B b.length cb] 30)
    have r5 := Rd.newRow w4 30 [.slice A a.length ca, .slice B b.length cb] (0, 0) (by simp [maxLen])
    have H5 := hid (concat_held g5 (· < w.heap.size) _ _ _ [a, b] r5 ⟨g5.rd HA.out, g5.rd HB.out, trivial⟩ (by simp; omega) (by simp))
    clear g4 g5 r5
    go_wp2_with fail
    refine H5.out.mono ?_
    rintro e w6 ⟨vc, rfl, g6⟩
    rw [show [a, b].flatten = a ++ b by simp] at g6
    have H6 := hid (send_held [rBytes vc (a ++ b), rNet q (oneNet 3 2 [] [])] [] (· < w.heap.size) g6 (one_ok (by simp) (by simp) (by decide)) (by simp [oneNet]) 1 3 wf1 _ a (g6.rd HA.out))
    rw [send_one (by decide) (by simp; omega)] at H6
    clear g6
    go_wp2_with fail
    refine H6.out.mono ?_
    rintro e w7 ⟨rfl, g7⟩
    have H7 := hid (send_held [rBytes vc (a ++ b), rNet q (oneNet 3 2 [] [])] [] (· < w.heap.size) g7 (one_ok (by simp) (by simp; omega) (by decide)) (by simp [oneNet]) 1 3 wf1 _ b (g7.rd HB.out))
    rw [send_one (by decide) (by simp; omega)] at H7
    clear g7
    go_wp2_with fail
    refine H7.out.mono ?_
    rintro e w8 ⟨rfl, g8⟩
    have H8 := hid (send_held [rBytes vc (a ++ b)] [rNet p (oneNet 3 2 [] ([] ++ a ++ b))] (fun _ => True) g8 (one_ok (by simp) (by simp) (by decide)) (by simp [oneNet]) 1 3 wf1 _ (a ++ b) (Held.bytes (l1 := []) g8))
    rw [send_one (by decide) (by simp; omega)] at H8
    obtain ⟨C, cc, hvc, hcc, hmc, _⟩ := Held.bytes (l1 := []) g8
    rw [bytesV_length] at hvc hcc
    subst hvc
    unfold maxLen at hmc
    simp only [List.length_append] at H8 hcc
    clear g8
    go_wp2_with fail
    refine H8.out.mono ?_
    rintro e w9 ⟨rfl, g9⟩
    have H9 := hid g9
    clear g9
    go_wp2_with fail
    obtain ⟨m, hm, hml⟩ := umod_small k (a.length + b.length) (by omega)
    rw [Int.natCast_add] at hm
    rw [hm]
    clear hm
    have hab : (a ++ b).length = a.length + b.length := by simp
    have H10 := hid (carry_held [rBytes (.slice C (a.length + b.length) cc) (a ++ b), rNet q (oneNet 3 2 [] (a ++ b))] [] H9.out (one_ok (by simp) (by rw [List.nil_append, hab]; omega) (by decide)) (by simp [oneNet]) 1 2 m wf1)
    rw [carry_one (by decide) (by omega), List.nil_append, hab, Int.toNat_natCast, Nat.min_eq_left hml] at H10
    go_wp2_with fail
    refine H10.out.mono ?_
    rintro e w10 ⟨vx, rfl, g10⟩
    have H11 := hid (carry_held [rBytes (.slice C (a.length + b.length) cc) (a ++ b), rNet q (oneNet 3 2 [] (a ++ b)), rBytes vx ((a ++ b).take m)] [] g10 (one_ok (by simp) (by rw [List.length_drop, hab]; omega) (by decide)) (by simp [oneNet]) 1 2 ((a.length : Int) + b.length - m) wf1)
    rw [carry_one (by decide) (by omega), show min ((a.length : Int) + b.length - m).toNat ((a ++ b).drop m).length = ((a ++ b).drop m).length by rw [List.length_drop, hab]; omega, List.take_length, List.drop_length] at H11
    obtain ⟨X, cx, hvx, hcx, hmx⟩ := Held.form (l1 := [rBytes (.slice C (a.length + b.length) cc) (a ++ b), rNet q (oneNet 3 2 [] (a ++ b))]) g10
    rw [show ((a ++ b).take m).length = m by rw [List.length_take, hab]; omega] at hvx hcx
    subst hvx
    clear g10
    go_wp2_with fail
    refine H11.out.mono ?_
    rintro e w11 ⟨vy, rfl, g11⟩
    have H12 := hid (carry_held [rBytes (.slice C (a.length + b.length) cc) (a ++ b)] [rBytes (.slice X m cx) ((a ++ b).take m), rBytes vy ((a ++ b).drop m), rNet p (oneNet 3 2 [] [])] g11 (one_ok (by simp) (by rw [hab]; omega) (by decide)) (by simp [oneNet]) 1 2 ((a.length : Int) + b.length) wf1)
    rw [carry_one (by decide) (by omega), show min ((a.length : Int) + b.length).toNat (a ++ b).length = (a ++ b).length by rw [hab]; omega, List.take_length, List.drop_length] at H12
    obtain ⟨Y, cy, hvy, hcy, hmy⟩ := Held.form (l1 := [rBytes (.slice C (a.length + b.length) cc) (a ++ b), rNet q (oneNet 3 2 [] (a ++ b)), rBytes (.slice X m cx) ((a ++ b).take m)]) g11
    rw [List.length_drop, hab] at hvy hcy
    subst hvy
    clear g11
    go_wp2_with fail
    refine H12.out.mono ?_
    rintro e w12 ⟨vz, rfl, g12⟩
    obtain ⟨Z, cz, hvz, hcz, hmz⟩ := Held.form (l1 := [rBytes (.slice C (a.length + b.length) cc) (a ++ b)]) g12
    rw [hab] at hvz hcz
    subst hvz
    have g13 := g12.alloc (.cells #[.slice X m cx, .slice Y (a.length + b.length - m) cy] 30)
    have r13 := Rd.newRow w12 30 [.slice X m cx, .slice Y (a.length + b.length - m) cy] (0, 0) (by simp [maxLen])
    have H13 := hid (concat_held g13 (fun _ => True) _ _ _ [(a ++ b).take m, (a ++ b).drop m] r13 ⟨Held.bytes (l1 := [rBytes (.slice C (a.length + b.length) cc) (a ++ b), rBytes (.slice Z (a.length + b.length) cz) (a ++ b), rNet q (oneNet 3 2 [] [])]) g13,
      Held.bytes (l1 := [rBytes (.slice C (a.length + b.length) cc) (a ++ b), rBytes (.slice Z (a.length + b.length) cz) (a ++ b), rNet q (oneNet 3 2 [] []), rBytes (.slice X m cx) ((a ++ b).take m)]) g13, trivial⟩ (by simp; omega) (by simp))
    rw [show [(a ++ b).take m, (a ++ b).drop m].flatten = a ++ b by simp] at H13
    clear g12 g13 r13
    go_wp2_with fail
    refine H13.out.mono ?_
    rintro e w13 ⟨vd, rfl, g14⟩
    have H14 := hid (equal_held g14 _ _ _ _ (a ++ b) (a ++ b) (Held.bytes (l1 := []) g14) (Held.bytes (l1 := [rBytes vd (a ++ b)]) g14))
    rw [beq_self_eq_true] at H14
    clear g14
    go_wp2_with fail
    refine H14.out.mono ?_
    rintro e w14 ⟨rfl, n14, rfl, g15⟩
    have H15 := hid (equal_held g15 _ _ _ _ (a ++ b) (a ++ b) (Held.bytes (l1 := [rBytes vd (a ++ b), rBytes (.slice C (a.length + b.length) cc) (a ++ b)]) g15) (Held.bytes (l1 := [rBytes vd (a ++ b)]) g15))
    rw [beq_self_eq_true] at H15
    clear g15
    go_wp2_with fail
    refine H15.out.mono ?_
    rintro e w15 ⟨rfl, n15, rfl, g16⟩
    have H16 := hid g16.below
    clear g16
    go_wp2
    go_ret
    exact ⟨rfl, by have h := H16.out; simpa using h⟩
end Go.Proofs.Ytcdeknbbeghljaa
