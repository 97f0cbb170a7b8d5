/- slices.Repeat of one truth value. -/
import Derived.Test.YtkednbkildkkmaaF7
import Derived.Shelf.Bits.Mul64
namespace Go.Proofs.Ytkednbkildkkmaa
open Go.RowKit Go.Lib

theorem mul_one_any (w : World) (n : Nat) (hn : n ≤ 1000000) :
    Calls Try.prog 57 #[.int .u64 1, .int .u64 (n : Int)] w fun e w' => e = .returned (.tuple #[.int .u64 0, .int .u64 (n : Int)]) ∧ w' = w := by
  have m1 : bits BinOp.and IntKind.u64 1 4294967295 = 1 := Mul64.maskN 1 (by omega)
  have m2 : bits BinOp.and IntKind.u64 (n : Int) 4294967295 = (n : Int) := by
    have h := Mul64.maskN n (by omega)
    rwa [Nat.mod_eq_of_lt (show n < 4294967296 by omega)] at h
  have m3 : bits BinOp.and IntKind.u64 0 4294967295 = 0 := Mul64.maskN 0 (by omega)
  have e2 : (n : Int) / 4294967296 = 0 := by omega
  have e3 : IntKind.u64.wrap (n : Int) = (n : Int) := Mul64.wrapN n (by omega)
  have e4 : IntKind.u64.wrap 0 = 0 := by rfl
  have e5 : (0 : Int) / 4294967296 = 0 := by rfl
  go_enter Try.func57, Try.ntmps57
  go_wp2
  try simp only [m1, m2, Int.one_mul, e3, e2, e4, m3, e5, Int.add_zero]
  go_ret2
  exact ⟨rfl, rfl⟩

theorem mul_any (w : World) (n : Nat) (hn : n ≤ 1000000) :
    Calls Try.prog 50 #[.int .u64 1, .int .u64 (n : Int)] w fun e w' => e = .returned (.tuple #[.int .u64 0, .int .u64 (n : Int)]) ∧ w' = w := by
  have C := hid (mul_one_any w n hn)
  clear hn
  go_enter Try.func50, Try.ntmps50
  go_wp2_with fail
  refine C.out.mono ?_
  rintro e w' ⟨rfl, rfl⟩
  go_wp2_with fail
  go_ret2
  exact ⟨rfl, rfl⟩

/-- a row of c truths, noughts behind. -/
def trues (c n : Nat) : List Value := List.replicate c (Value.bool true) ++ List.replicate (n - c) (Value.bool false)
theorem trues_length {c n : Nat} (h : c ≤ n) : (trues c n).length = n := by unfold trues; simp; omega
theorem trues_all (n : Nat) : trues n n = boolsV (List.replicate n true) := by unfold trues boolsV; simp
theorem trues_zero (n : Nat) : trues 0 n = List.replicate n (Value.bool false) := by unfold trues; simp
theorem trues_splice {c n m : Nat} (h : c + m ≤ n) : splice (trues c n) c (List.replicate m (.bool true)) = trues (c + m) n := by
  unfold splice trues
  rw [List.length_replicate, List.take_append_of_le_length (by rw [List.length_replicate]; omega), List.take_of_length_le (by rw [List.length_replicate]; omega), List.drop_append, List.drop_eq_nil_of_le (by rw [List.length_replicate]; omega), List.nil_append, List.drop_replicate, List.length_replicate, ← List.replicate_append_replicate (n := c) (m := m)]
  have e : n - c - (c + m - c) = n - (c + m) := by omega
  rw [e, List.append_assoc]

set_option maxRecDepth 100000 in
set_option maxHeartbeats 2000000 in
theorem repeat_held {w0 w : World} {B : List Res} {g : Nat} (h : Held w0 w (rOwn 4 (.slice (some ⟨g, 0, none⟩) 1 1) [.bool true] :: B)) (n : Nat) (hn : n ≤ 1000000) :
    Calls Try.prog 31 #[.slice (some ⟨g, 0, none⟩) 1 1, .int .i64 (n : Int)] w fun e w' => ∃ v, e = .returned v ∧ Held w0 w' (rOwn 4 v (boolsV (List.replicate n true)) :: rOwn 4 (.slice (some ⟨g, 0, none⟩) 1 1) [.bool true] :: B) := by
  have C := hid (mul_any w n hn)
  have H := hid h
  have hn' : decide ((n : Int) < 0) = false := by simp
  have hk : IntKind.u64.wrap (n : Int) = (n : Int) := Mul64.wrapN n (by omega)
  have hk' : IntKind.i64.wrap (n : Int) = (n : Int) := by rw [IntKind.wrap_i64]; omega
  have hb : decide (9223372036854775807 < (n : Int)) = false := by simp; omega
  go_enter Try.func31, Try.ntmps31
  go_wp2_with fail
  refine C.out.mono ?_
  rintro e w' ⟨rfl, rfl⟩
  clear C h
  obtain ⟨i0, hi, hz0, hz1, hz2⟩ := info_parts (P := Try.prog) (e := 4) (z := .bool false) (size := 1) (bytes := 1) (by kernel_rfl)
  have HI := hid (And.intro hi (And.intro hz0 (And.intro hz1 hz2)))
  clear hi hz0 hz1 hz2
  go_wp2_with (refine wpList_make_held rfl _ _ 23 rfl 4 i0 (.bool false) 1 Try.underlying23 HI.out.1 HI.out.2.1 HI.out.2.2.1 HI.out.2.2.2 rfl H.out .i64 .i64 n rfl rfl (by omega) (by unfold maxLen; omega) ?c1)
  case c1 =>
  intro w1 A hA
  have H1 := hid hA
  have hk9 : A = none ∧ n = 0 ∨ ∃ b, A = some ⟨b, 0, none⟩ := by
    obtain ⟨-, h2⟩ := own_addr hA
    rcases h2 with ⟨a, -, c⟩ | h2
    · exact .inl ⟨a, c⟩
    · exact .inr h2
  clear hA H HI
  obtain ⟨m, hm⟩ : ∃ m : Nat, m = Nat.min 1 n := ⟨_, rfl⟩
  have HN := hid (show m ≤ n ∧ (0 < n → 0 < m) by
    rw [hm]
    exact ⟨Nat.min_le_right 1 n, fun h => Nat.lt_min.2 ⟨by omega, h⟩⟩)
  have HM := hid hm
  clear hm
  go_wp2_with (refine wpList_copy_held (l1 := []) rfl _ _ 23 23 rfl 4 Try.underlying23 (by kernel_rfl) _ _ H1.out _ _ _ _ _ _ rfl rfl 0 (List.replicate m (.bool true)) ?c2 ?c3 ?c4 ?c5 ?c6)
  case c2 => rw [List.length_replicate]; exact HM.out
  case c3 =>
    intro h0
    rw [List.length_replicate] at h0
    have hn0 := HN.out.1
    refine ⟨fun g' n' c' e => ?_, ?_⟩
    · injection e
    · have hr := Held.own_rd (l1 := [rOwn 4 (.slice A n n) (List.replicate n (.bool false))]) H1.out
      obtain ⟨ad, he, hcl⟩ := src_cells hr (by simp)
      refine ⟨ad, he, fun j v hv => ?_⟩
      have := HM.out
      obtain ⟨hj, hv'⟩ := List.getElem?_eq_some_iff.1 hv
      rw [List.length_replicate] at hj
      rw [List.getElem_replicate] at hv'
      subst hv'
      have hm1 : m ≤ 1 := by rw [this]; exact Nat.min_le_left 1 n
      have hj0 : j = 0 := by omega
      subst hj0
      exact hcl 0 _ rfl
  case c4 => rw [List.length_replicate, List.length_replicate]; have := HN.out.1; omega
  case c5 => intro v hv; rw [List.eq_of_mem_replicate hv]; rfl
  case c6 =>
  intro w2 g2
  have H2 : Hid (Held w0 w2 (rOwn 4 (.slice A n n) (trues m n) :: rOwn 4 (.slice (some ⟨g, 0, none⟩) 1 1) [.bool true] :: B)) := hid (by
    have e := trues_splice (c := 0) (n := n) (m := m) (by have := HN.out.1; omega)
    rw [trues_zero, Nat.zero_add] at e
    rw [← e]
    exact g2)
  clear g2 H1
  go_wp2_with fail
  go_loopw [8] (fun i wr => ∃ c : Nat, c ≤ n ∧ (c < n → 0 < c) ∧ i = .int .i64 c ∧ Held w0 wr (rOwn 4 (.slice A n n) (trues c n) :: rOwn 4 (.slice (some ⟨g, 0, none⟩) 1 1) [.bool true] :: B)) (fun i _ => n - (intOf i).toNat)
  case atStart =>
    exact ⟨m, HN.out.1, fun h => HN.out.2 (by omega), rfl, H2.out⟩
  case round =>
    obtain ⟨c, hc, hp, rfl, hh⟩ := hrel
    have HH := hid hh
    have HP := hid hp
    clear hh hp
    by_cases hlt : c < n
    · rcases hk9 with ⟨-, h0⟩ | ⟨b, rfl⟩
      · omega
      obtain ⟨k, hk0⟩ : ∃ k : Nat, k = Nat.min c (n - c) := ⟨_, rfl⟩
      have HK := hid (And.intro hk0 (show k ≤ c ∧ c + k ≤ n ∧ 0 < k by
        rw [hk0]
        have := HP.out hlt
        have h1 := Nat.min_le_left c (n - c)
        have h2 := Nat.min_le_right c (n - c)
        have h3 : 0 < min c (n - c) := Nat.lt_min.2 ⟨by omega, by omega⟩
        refine ⟨h1, ?_, h3⟩
        have h2' : Nat.min c (n - c) ≤ n - c := h2
        omega))
      clear hk0
      have HC := hid (show (∀ (g' n' c' : Nat), Value.slice (some ⟨b, 0, none⟩) n n = .slice (some ⟨g', 0, none⟩) n' c' → (if n = c then some (⟨b, 0, none⟩ : Addr) else some ⟨b, c, none⟩) = some ⟨g', c, none⟩) ∧ ∃ ad, some (⟨b, 0, none⟩ : Addr) = some ad ∧ ∀ (j : Nat) v, (List.replicate k (Value.bool true))[j]? = some v → wr.drew.cell? (ad.add j) = some v by
        refine ⟨fun g' n' c' e => by cases e; rw [if_neg (by omega)], _, rfl, fun j v hv => ?_⟩
        have hr := Held.own_rd (l1 := []) HH.out.drew
        obtain ⟨ad, he, hcl⟩ := src_cells hr (by rw [trues_length hc]; omega)
        cases he
        refine hcl j v ?_
        have := HK.out.2.1
        obtain ⟨hj, hv'⟩ := List.getElem?_eq_some_iff.1 hv
        rw [List.length_replicate] at hj
        rw [List.getElem_replicate] at hv'
        subst hv'
        unfold trues
        rw [List.getElem?_append_left (by rw [List.length_replicate]; omega), List.getElem?_replicate, if_pos (by omega)])
      go_wp2_with fail
      go_region_held3 (fun _ => True) (trivial)
        (first
          | (refine step_copy_held (l1 := []) rfl _ _ 23 23 rfl 4 Try.underlying23 (by kernel_rfl) _ _ HH.out.drew _ _ _ _ _ _ rfl rfl c (List.replicate k (.bool true)) (by rw [List.length_replicate]; exact HK.out.1) (fun _ => HC.out) (by have := HK.out.2.2.1; rw [trues_length hc, List.length_replicate]; omega) (by intro v hv; rw [List.eq_of_mem_replicate hv]; rfl) ?_; intro w3 g3; have G3 := hid g3; clear g3))
      all_goals
        have hw : IntKind.i64.wrap ((c : Int) + (k : Int)) = ((c + k : Nat) : Int) := by have := HK.out.2.2.1; rw [IntKind.wrap_i64]; omega
        rw [hw]
        have G4 := G3.out
        rw [trues_splice HK.out.2.2.1] at G4
        have H4 := hid G4
        clear G3 G4
        go_wp2_with fail
        go_roundw
        case rel => exact ⟨c + k, HK.out.2.2.1, fun _ => by have := HK.out.2.2.2; omega, rfl, H4.out⟩
        case measure => have := HK.out.2.2; simp [intOf]; omega
    · have hcn : c = n := by omega
      subst hcn
      go_wp2_with fail
      go_ret
      have h := HH.out
      rw [trues_all] at h
      exact ⟨_, rfl, h⟩
end Go.Proofs.Ytkednbkildkkmaa
