/- disk: what Crash keeps: the rows of acts, the last one cut. -/
import Derived.Test.YtkednbkildkkmaaF6
import Derived.Laws.OwnMore
namespace Go.Proofs.Ytkednbkildkkmaa
open Go.RowKit
open Disk

theorem flatten_set {α : Type} {k : Nat} (u : α) : ∀ {rows : List (List α)} {j m : Nat} {r : List α}, (∀ r ∈ rows, r.length = k) → rows[j]? = some r → m < k → (rows.set j (r.set m u)).flatten = rows.flatten.set (j * k + m) u
  | [], j, m, r, _, h, _ => by simp at h
  | r0 :: rows, 0, m, r, hl, h, hm => by
    simp at h
    subst h
    rw [List.set_cons_zero, List.flatten_cons, List.flatten_cons, Nat.zero_mul, Nat.zero_add, List.set_append_left _ _ (by rw [hl r0 (by simp)]; exact hm)]
  | r0 :: rows, j + 1, m, r, hl, h, hm => by
    have h0 := hl r0 (by simp)
    have e : (j + 1) * k + m - r0.length = j * k + m := by rw [h0, Nat.succ_mul]; omega
    rw [List.set_cons_succ, List.flatten_cons, List.flatten_cons, List.set_append_right _ _ (by rw [h0, Nat.succ_mul]; omega), e, flatten_set u (fun r hr => hl r (by simp [hr])) (by simpa using h) hm]

section
variable {w0 w : World} {B : List Res}
theorem Held.row_store {k : Nat} {e : TypeId} {g c nr : Nat} {rows : List (List Value)} (hnr : rows.length = nr) (h : Held w0 w (rRows k e (.slice (some ⟨g, 0, none⟩) nr c) rows :: B)) {j : Nat} {r : List Value} (hj : rows[j]? = some r) {m : Nat} (hm : m < k) (u : Value) :
    Held w0 (w.setCell ⟨g, j * k + m, none⟩ u) (rRows k e (.slice (some ⟨g, 0, none⟩) nr c) (rows.set j (r.set m u)) :: B) ∧ w.frozen? ⟨g, j * k + m, none⟩ = false := by
  subst hnr
  obtain ⟨F, ⟨hl, hown, hF⟩, nF, -, hback⟩ := Held.use (l1 := []) h
  have hjl : j < rows.length := (List.getElem?_eq_some_iff.1 hj).1
  obtain ⟨h1, h2⟩ := hown
  rcases h2 with ⟨hv, hz⟩ | ⟨g', cap, cur, hv, hb, hg, r1, r2, r3, r4⟩
  · omega
  · injection hv with e1 e2 e3
    injection e1 with e1
    injection e1 with e1
    subst e1 e3
    have hfz : w.frozen? ⟨g, j * k + m, none⟩ = false := by simp [World.frozen?, hg]
    refine ⟨hback _ (rRows k e (.slice (some ⟨g, 0, none⟩) rows.length c) (rows.set j (r.set m u))) F ⟨?_, ⟨?_, .inr ⟨g, c, cur.setIfInBounds (j * k + m) u, by rw [List.length_set], hb, ?_, by rw [List.length_set]; exact r1, r2, by simpa using r3, ?_⟩⟩, hF⟩ ⟨(Mod.refl _ w).setCell (fun _ => by rw [hF]; simp [Value.ownBlock]) _, nF, fun b hb => .inl hb⟩, hfz⟩
    · intro r' hr'
      rcases List.mem_or_eq_of_mem_set hr' with h | h
      · exact hl r' h
      · rw [h, List.length_set]; exact hl r (List.mem_of_getElem? hj)
    · rw [flatten_set u hl hj hm, List.length_set, List.length_set]; exact h1
    · simp [World.setCell, Array.getElem?_modify, hg]
    · rw [flatten_set u hl hj hm, List.length_set, Array.toList_setIfInBounds, List.take_set, r4]
end

/-! ### what is kept -/
def keepsG {α : Type} : List α → List Bool → List α
  | a :: l, k :: ks => if k then a :: keepsG l ks else keepsG l ks
  | _, _ => []
theorem keepsG_map {α β : Type} (f : α → β) : ∀ (l : List α) (ks : List Bool), (keepsG l ks).map f = keepsG (l.map f) ks
  | [], ks => by cases ks <;> rfl
  | a :: l, [] => rfl
  | a :: l, k :: ks => by
    simp only [keepsG, List.map_cons]
    split
    · rw [List.map_cons, keepsG_map f l ks]
    · exact keepsG_map f l ks
theorem keeps_eq : ∀ (l : List Deed) (ks : List Bool), keeps l ks = keepsG l ks
  | [], ks => by cases ks <;> rfl
  | a :: l, [] => rfl
  | a :: l, k :: ks => by simp only [keepsG, keeps]; rw [keeps_eq l ks]
theorem keepsG_mem {α : Type} : ∀ {l : List α} {ks : List Bool} {a : α}, a ∈ keepsG l ks → a ∈ l
  | [], ks, a, h => by cases ks <;> simp [keepsG] at h
  | b :: l, [], a, h => by simp [keepsG] at h
  | b :: l, k :: ks, a, h => by
    simp only [keepsG] at h
    split at h
    · rcases List.mem_cons.1 h with h | h
      · simp [h]
      · simp [keepsG_mem h]
    · simp [keepsG_mem h]
theorem keepsG_nil_r {α : Type} (l : List α) : keepsG l [] = [] := by cases l <;> rfl
theorem keepsG_succ {α : Type} : ∀ {l : List α} {ks : List Bool} {k : Nat} (hk : k < l.length), keepsG (l.take (k + 1)) ks = keepsG (l.take k) ks ++ (if ks[k]? = some true then [l[k]] else [])
  | a :: l, [], k, hk => by simp [keepsG_nil_r]
  | a :: l, b :: ks, 0, hk => by
    cases b <;> simp [keepsG]
    all_goals cases ks <;> rfl
  | a :: l, b :: ks, k + 1, hk => by
    have ih := keepsG_succ (l := l) (ks := ks) (k := k) (by simpa using hk)
    simp only [List.take_succ_cons, keepsG, ih, List.getElem?_cons_succ, List.getElem_cons_succ]
    split <;> simp
theorem keepsG_len {α : Type} : ∀ (l : List α) (ks : List Bool), (keepsG l ks).length ≤ l.length
  | [], ks => by cases ks <;> simp [keepsG]
  | a :: l, [] => by simp [keepsG]
  | a :: l, k :: ks => by
    have := keepsG_len l ks
    simp only [keepsG]
    split <;> simp <;> omega

/-- how much of the last one is left. -/
def leftOver (n : Nat) (tear : Int) : Nat := n - min (max tear 0).toNat n
/-- pairs whose bytes are a beginning of those of ps. -/
def KeptOf (ps kp : List (Deed × Value)) : Prop := ∀ q ∈ kp, ∃ o ∈ ps, ∃ A c m, o.2 = .slice A o.1.b.length c ∧ m ≤ o.1.b.length ∧ q = ({ o.1 with b := o.1.b.take m }, .slice A m c)
theorem kept_src {w0 : World} {B : List Res} {ps kp : List (Deed × Value)} (h : KeptOf ps kp) {q : Deed × Value} (hq : q ∈ kp) {w : World} (hh : Held w0 w (rBig bytesLoc (ps.map bOf) :: B)) :
    ∃ A c, q.2 = .slice A q.1.b.length c ∧ q.1.b.length ≤ c ∧ c ≤ 9223372036854775807 ∧ Rd (fun _ => True) w q.2 (bytesV q.1.b) := by
  obtain ⟨o, ho, A, c, m, e1, e2, rfl⟩ := h q hq
  have hr := hh.bytes_at ho
  obtain ⟨A', c', hv, h1, h2, -⟩ := id hr
  rw [bytesV_length] at hv h1
  rw [e1] at hv
  injection hv with _ _ h3
  subst h3
  rw [e1] at hr
  have hr2 := hr.take e2
  have hl : (o.1.b.take m).length = m := by rw [List.length_take]; omega
  refine ⟨A, c, by simp only [hl], by simp only [hl]; omega, by unfold maxLen at h2; exact h2, ?_⟩
  simp only
  unfold bytesV at hr2 ⊢
  rw [List.map_take]
  exact hr2
theorem kept_all {w0 w : World} {B : List Res} {ps : List (Deed × Value)} (ks : List Bool) (hh : Held w0 w (rBig bytesLoc (ps.map bOf) :: B)) : KeptOf ps (keepsG ps ks) := by
  intro q hq
  have hqp := keepsG_mem hq
  obtain ⟨A, c, hv, -, -⟩ := hh.bytes_form hqp
  refine ⟨q, hqp, A, c, q.1.b.length, hv, Nat.le_refl _, ?_⟩
  rw [List.take_length, ← hv]
def cutPair (q : Deed × Value) (m : Nat) : Deed × Value := ({ q.1 with b := q.1.b.take m }, match q.2 with | .slice A _ c => .slice A m c | v => v)
theorem kept_cut {ps init : List (Deed × Value)} {q : Deed × Value} (h : KeptOf ps (init ++ [q])) {m : Nat} (hm : m ≤ q.1.b.length) : KeptOf ps (init ++ [cutPair q m]) := by
  intro x hx
  rcases List.mem_append.1 hx with hx | hx
  · exact h x (by simp [hx])
  · rw [List.mem_singleton.1 hx]
    obtain ⟨o, ho, A, c, k, e1, e2, rfl⟩ := h q (by simp)
    simp only [List.length_take] at hm
    refine ⟨o, ho, A, c, m, e1, by omega, ?_⟩
    simp only [cutPair, List.take_take]
    rw [Nat.min_eq_left (by omega)]
theorem torn_snoc (l : List Deed) (a : Deed) (tear : Int) : torn (l ++ [a]) tear = if a.kind = 0 then l ++ [{ a with b := a.b.take (leftOver a.b.length tear) }] else l ++ [a] := by
  unfold torn leftOver
  simp only [List.getLast?_concat, List.dropLast_concat]
theorem torn_nil (tear : Int) : torn [] tear = [] := rfl

def boolsV (l : List Bool) : List Value := l.map Value.bool
theorem rd_bool {S : Nat → Prop} {w : World} {A : Option Addr} {n c : Nat} {ks : List Bool} (h : Rd S w (.slice A n c) (boolsV ks)) {k : Nat} {b : Bool} (hk : ks[k]? = some b) : ∃ g off, A = some ⟨g, off, none⟩ ∧ w.cell? ⟨g, off + k, none⟩ = some (.bool b) := by
  obtain ⟨A', c', hv, -, -, hA⟩ := h
  injection hv with e1 _ _
  subst e1
  obtain ⟨g, off, ha, -, hc⟩ := hA (by intro e; unfold boolsV at e; have := List.map_eq_nil_iff.1 e; rw [this] at hk; simp at hk)
  exact ⟨g, off, ha, hc k _ (by unfold boolsV; rw [List.getElem?_map, hk]; rfl)⟩
end Go.Proofs.Ytkednbkildkkmaa
