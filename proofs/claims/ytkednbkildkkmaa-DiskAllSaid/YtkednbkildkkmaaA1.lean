/- slices.Clone of bytes; rows of bytes among held things. -/
import Derived.Test.YtkednbkildkkmaaChecked
import Derived.Test.YtkednbkildkkmaaB7
import Derived.Lib.AppendZeros
namespace Go.Proofs.Ytkednbkildkkmaa
open Go.RowKit

theorem Try.info5 : (Try.prog.info? 5).map (fun i => (i.zero, i.size, i.bytes)) = some (some (.int .u8 0), 1, 1) := by kernel_rfl

set_option maxHeartbeats 1000000 in
/-- slices.Clone of bytes: a row of its own. -/
theorem clone_bytes (S : Nat → Prop) (w : World) (v : Value) (l : List UInt8) (h : Rd S w v (bytesV l)) (hl : l.length ≤ 70368744177664) :
    Calls Try.prog 36 #[v] w fun e w' => ∃ v' F, e = .returned v' ∧ Own 5 1 v' l.length (bytesV l) w' F ∧ Upd w w' [] F := by
  obtain ⟨A, c, hv, hc, hmx, hA⟩ := id h
  rw [bytesV_length] at hc hv
  subst hv
  have eN := fun (w : World) (a : Option Addr) (n c : Nat) => Lib.run_eql_slice_nil (P := Try.prog) w 31 5 a n c 0 0 Try.underlying31
  cases A with
  | none =>
    have : l = [] := by
      cases l with
      | nil => rfl
      | cons _ _ => obtain ⟨_, _, h, _⟩ := hA (by simp [bytesV]); cases h
    subst this
    clear h hA
    go_enter Try.func36, Try.ntmps36
    go_wp2
    go_ret
    exact ⟨_, [], rfl, Own.nil _ _ _, Upd.refl _ (by simp)⟩
  | some ad =>
    obtain ⟨i0, hi, hz0, hz1, hz2⟩ := info_parts Try.info5
    have HH := hid h
    have HI := hid (And.intro hi (And.intro hz0 (And.intro hz1 hz2)))
    have HL := hid hl
    clear h hA hi hz0 hz1 hz2 hl hmx
    go_enter Try.func36, Try.ntmps36
    have HO := hid (Own.made 5 w)
    go_wp2_with (at_builtin; refine wpList_append_rd _ rfl _ _ 31 rfl 5 i0 (.int .u8 0) 1 Try.underlying31 HI.out.1 HI.out.2.1 HI.out.2.2.1 HI.out.2.2.2 rfl _ 0 [] _ rfl HO.out S (.slice (some ad) l.length c) (bytesV l) rfl (HH.out.alloc _) (bytesV_one l) ?c1 ?c2 ?c3)
    case c1 => have := HL.out; rw [bytesV_length]; omega
    case c2 => have := HL.out; rw [bytesV_length]; unfold maxLen; omega
    case c3 =>
      intro v' w1 F' hown hu
      have HP := hid (And.intro hown hu)
      clear hown hu
      go_wp2
      go_ret
      obtain ⟨hown, hu⟩ := HP.out
      refine ⟨_, F', rfl, by simpa [bytesV_length] using hown, Upd.new ((Mod.refl _ w).alloc _) hu (by simp)⟩

def rBytes (v : Value) (l : List UInt8) : Res := rOwn 5 v (bytesV l)
theorem own_bytes {v : Value} {l : List UInt8} {w : World} {F : List Nat} (h : Own 5 1 v l.length (bytesV l) w F) : (rBytes v l).holds w F := by
  show Own _ 1 v (bytesV l).length (bytesV l) w F
  rwa [bytesV_length]
theorem bytes_own {v : Value} {l : List UInt8} {w : World} {F : List Nat} (h : (rBytes v l).holds w F) : Own 5 1 v l.length (bytesV l) w F := by
  have h' : Own _ 1 v (bytesV l).length (bytesV l) w F := h
  rwa [bytesV_length] at h'
theorem Held.bytes {w0 w : World} {l1 l2 : List Res} {v : Value} {l : List UInt8} (h : Held w0 w (l1 ++ rBytes v l :: l2)) : Rd (fun _ => True) w v (bytesV l) := Held.own_rd h
theorem Held.form {w0 w : World} {l1 l2 : List Res} {v : Value} {l : List UInt8} (h : Held w0 w (l1 ++ rBytes v l :: l2)) : ∃ A c, v = .slice A l.length c ∧ l.length ≤ c ∧ c ≤ 9223372036854775807 := by
  obtain ⟨A, c, hv, hc, hm, _⟩ := h.bytes
  rw [bytesV_length] at hv hc
  exact ⟨A, c, hv, hc, hm⟩
theorem Held.bytes_take {w0 w : World} {l1 l2 : List Res} {A : Option Addr} {n c : Nat} {x : List UInt8} (h : Held w0 w (l1 ++ rBytes (.slice A n c) x :: l2)) {k : Nat} (hk : k ≤ x.length) : Held w0 w (l1 ++ rBytes (.slice A k c) (x.take k) :: l2) := by
  obtain ⟨F, hF, nF, _, hb⟩ := h.use
  obtain ⟨⟨h1, h2⟩, h3⟩ := bytes_own hF
  refine hb w _ F (own_bytes ⟨⟨by rw [bytesV_length, List.length_take]; omega, ?_⟩, by rw [h3]; cases A <;> rfl⟩) (Upd.refl _ nF)
  rw [bytesV_length] at h1
  rw [List.length_take, Nat.min_eq_left hk]
  rcases h2 with ⟨e, hz⟩ | ⟨g, cap, cur, e, hbase, hg, r1, r2, r3, r4⟩
  · injection e with e1 e2 e3
    subst e1 e2 e3
    have : k = 0 := by omega
    subst this
    exact .inl ⟨rfl, rfl⟩
  · injection e with e1 e2 e3
    subst e1 e2 e3
    refine .inr ⟨g, c, cur, rfl, hbase, hg, by omega, r2, r3, ?_⟩
    rw [bytesV_take, ← r4, List.take_take, Nat.mul_one, Nat.mul_one, Nat.min_eq_left hk]

theorem clone_held {w0 w : World} {Rs : List Res} (h : Held w0 w Rs) (S : Nat → Prop) (v : Value) (l : List UInt8) (hr : Rd S w v (bytesV l)) (hl : l.length ≤ 70368744177664) :
    Calls Try.prog 36 #[v] w fun e w' => ∃ v', e = .returned v' ∧ Held w0 w' (rBytes v' l :: Rs) :=
  (clone_bytes S w v l hr hl).mono fun _ _ ⟨v', _, he, h1, h2⟩ => ⟨v', he, h.more (own_bytes h1) h2⟩
end Go.Proofs.Ytkednbkildkkmaa
