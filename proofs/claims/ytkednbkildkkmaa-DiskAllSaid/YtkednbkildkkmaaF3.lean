/- disk: the acts' row, opened and read; the two questions of settle. -/
import Derived.Test.YtkednbkildkkmaaF2
namespace Go.Proofs.Ytkednbkildkkmaa
open Go.RowKit
open Disk

theorem flatten_at {α : Type} {k : Nat} : ∀ {rows : List (List α)} {j m : Nat} {r : List α}, (∀ r ∈ rows, r.length = k) → rows[j]? = some r → m < k → rows.flatten[j * k + m]? = r[m]?
  | [], j, m, r, _, h, _ => by simp at h
  | r0 :: rows, 0, m, r, hl, h, hm => by
    simp at h
    subst h
    rw [List.flatten_cons, Nat.zero_mul, Nat.zero_add, List.getElem?_append_left (by rw [hl r0 (by simp)]; exact hm)]
  | r0 :: rows, j + 1, m, r, hl, h, hm => by
    have h0 := hl r0 (by simp)
    have e : (j + 1) * k + m - r0.length = j * k + m := by rw [h0, Nat.succ_mul]; omega
    rw [List.flatten_cons, List.getElem?_append_right (by rw [h0, Nat.succ_mul]; omega), e]
    exact flatten_at (fun r hr => hl r (by simp [hr])) (by simpa using h) hm

section
variable {w0 w : World} {B : List Res}
theorem Held.row_at {k : Nat} {e : TypeId} {v : Value} {rows : List (List Value)} (h : Held w0 w (rRows k e v rows :: B)) {j : Nat} {r : List Value} (hj : rows[j]? = some r) :
    ∃ g c, v = .slice (some ⟨g, 0, none⟩) rows.length c ∧ rows.length ≤ c ∧ c ≤ 9223372036854775807 ∧ ∀ m u, r[m]? = some u → w.cell? ⟨g, j * k + m, none⟩ = some u := by
  obtain ⟨F, hF⟩ := Held.get (l1 := []) h
  obtain ⟨hl, ⟨⟨h1, h2⟩, -⟩⟩ := hF
  have hjl : j < rows.length := (List.getElem?_eq_some_iff.1 hj).1
  rcases h2 with ⟨rfl, hz⟩ | ⟨g, cap, cur, rfl, -, hg, r1, r2, r3, r4⟩
  · omega
  · refine ⟨g, cap, rfl, r1, by unfold maxLen at r2; exact r2, fun m u hu => ?_⟩
    have hm : m < k := by
      have := (List.getElem?_eq_some_iff.1 hu).1
      rwa [hl r (List.mem_of_getElem? hj)] at this
    have hf := flatten_at hl hj hm
    rw [hu, ← r4, List.getElem?_take] at hf
    split at hf
    · simp only [World.cell?, hg, Option.isSome_none, Bool.false_eq_true, if_false]
      simpa using hf
    · cases hf

def rowOf (q : Deed × Value) : List Value := actRow q.1 q.2
def bOf (q : Deed × Value) : Value × Bytes := (q.2, q.1.b)
theorem Held.acts_open {v : Value} {l : List Deed} (h : Held w0 w (rActs v l :: B)) : ∃ ps : List (Deed × Value), ps.map (·.1) = l ∧ Held w0 w (rRows 4 72 v (ps.map rowOf) :: rBig bytesLoc (ps.map bOf) :: B) := by
  obtain ⟨bvs, hb, h1⟩ := Held.open_some (l1 := []) h
  refine ⟨l.zip bvs, by rw [List.map_fst_zip (by omega)], ?_⟩
  have e1 : (l.zip bvs).map rowOf = List.zipWith actRow l bvs := by rw [List.zip_eq_zipWith, List.map_zipWith]; rfl
  have e2 : ∀ (l : List Deed) (bvs : List Value), (l.zip bvs).map bOf = bvs.zip (l.map (·.b)) := by
    intro l
    induction l with
    | nil => intro bvs; simp
    | cons a l ih =>
      intro bvs
      cases bvs with
      | nil => rfl
      | cons v bvs => simp [bOf, ih]
  rw [e1, e2]
  exact h1
theorem Held.acts_shut {v : Value} {ps : List (Deed × Value)} (h : Held w0 w (rRows 4 72 v (ps.map rowOf) :: rBig bytesLoc (ps.map bOf) :: B)) : Held w0 w (rActs v (ps.map (·.1)) :: B) := by
  refine Held.close_some (l1 := []) (ps.map (·.2)) (by simp) ?_
  have e1 : List.zipWith actRow (ps.map (·.1)) (ps.map (·.2)) = ps.map rowOf := by
    induction ps with
    | nil => rfl
    | cons a l ih => simp [rowOf]
  have e2 : (ps.map (·.2)).zip ((ps.map (·.1)).map (·.b)) = ps.map bOf := by
    clear h e1
    induction ps with
    | nil => rfl
    | cons a l ih => simp [bOf]; simpa [bOf] using ih
  rw [e1, e2]
  exact h
/-- the bytes of one of them. -/
theorem Held.bytes_at {ps : List (Deed × Value)} (h : Held w0 w (rBig bytesLoc (ps.map bOf) :: B)) {q : Deed × Value} (hq : q ∈ ps) : Rd (fun _ => True) w q.2 (bytesV q.1.b) := by
  obtain ⟨l1, l2, hs⟩ := List.append_of_mem hq
  rw [hs, List.map_append, List.map_cons] at h
  have h1 := Held.big_split (l1 := []) bytesLoc h
  have h2 := Held.big_uncons (l1 := [rBig bytesLoc (l1.map bOf)]) bytesLoc h1
  exact Held.bytes (l1 := [rBig bytesLoc (l1.map bOf)]) h2
theorem Held.bytes_form {ps : List (Deed × Value)} (h : Held w0 w (rBig bytesLoc (ps.map bOf) :: B)) {q : Deed × Value} (hq : q ∈ ps) : ∃ A c, q.2 = .slice A q.1.b.length c ∧ q.1.b.length ≤ c ∧ c ≤ 9223372036854775807 := by
  obtain ⟨A, c, hv, q1, q2, _⟩ := h.bytes_at hq
  rw [bytesV_length] at hv q1
  exact ⟨A, c, hv, q1, by unfold maxLen at q2; exact q2⟩
end

set_option maxRecDepth 100000 in
theorem sync1_any (w : World) (a : Deed) (bA : Option Addr) (bn bc nb : Nat) (name : Bytes) (hc : w.cell? ⟨nb, 0, none⟩ = some (sv name)) :
    Calls Try.prog 34 #[.agg #[.int .i64 a.kind, sv a.name, .int .i64 a.at_, .slice bA bn bc], .pointer (some ⟨nb, 0, none⟩)] w fun e w' => e = .returned (.bool (a.name == name)) ∧ Mod (fun _ => False) w w' := by
  have hc' : ∀ o, (w.alloc o).cell? ⟨nb, 0, none⟩ = some (sv name) := fun o => ((Mod.refl (fun _ => False) w).alloc o).cell hc (fun h => h)
  clear hc
  unfold sv at hc' ⊢
  go_enter Try.func34, Try.ntmps34
  go_wp2_with fail
  go_ret
  exact ⟨rfl, (Mod.refl _ w).alloc _⟩

theorem flush1_any (w : World) (a : Deed) (bA : Option Addr) (bn bc : Nat) :
    Calls Try.prog 42 #[.agg #[.int .i64 a.kind, sv a.name, .int .i64 a.at_, .slice bA bn bc]] w fun e w' => e = .returned (.bool true) ∧ Mod (fun _ => False) w w' := by
  unfold sv
  go_enter Try.func42, Try.ntmps42
  go_wp2_with fail
  go_ret
  exact ⟨rfl, (Mod.refl _ w).alloc _⟩
end Go.Proofs.Ytkednbkildkkmaa
