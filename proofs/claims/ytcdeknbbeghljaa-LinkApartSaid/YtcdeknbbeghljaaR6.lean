/- link: what each call keeps: numbers rise, nobody is there that should be gone. No program. -/
import Derived.Test.YtcdeknbbeghljaaR3
import Derived.Test.YtcdeknbbeghljaaL21
namespace Go.Proofs.Ytcdeknbbeghljaa
open Link
namespace Link
structure Net.Fine (n : Net) : Prop where
  ok : n.Ok
  live : n.Live
  rise : (n.conns.map (·.1)).Pairwise (· < ·)

theorem inj_map {α β : Type} {f : α → β} : ∀ {l : List α}, (l.map f).Nodup → ∀ {x y : α}, x ∈ l → y ∈ l → f x = f y → x = y
  | [], _, _, _, hx, _, _ => by cases hx
  | a :: l, h, x, y, hx, hy, e => by
    rw [List.map_cons, List.nodup_cons] at h
    rcases List.mem_cons.1 hx with hx | hx
    · rcases List.mem_cons.1 hy with hy | hy
      · rw [hx, hy]
      · exact absurd (List.mem_map.2 ⟨y, hy, by rw [← e, hx]⟩) h.1
    · rcases List.mem_cons.1 hy with hy | hy
      · exact absurd (List.mem_map.2 ⟨x, hx, by rw [e, hy]⟩) h.1
      · exact inj_map h.2 hx hy e
theorem filter_both {α : Type} (p : α → Bool) (l : List α) : l.length = (l.filter p).length + (l.filter fun x => !p x).length := by
  induction l with
  | nil => rfl
  | cons a l ih =>
    rw [List.filter_cons, List.filter_cons]
    cases p a <;> simp <;> omega
section
variable {n : Net} {id : Int} {c c' : Conn}
theorem Net.Fine.sorted (h : n.Fine) : n.ids = n.conns.map (·.1) := by
  unfold Net.ids
  exact List.mergeSort_of_pairwise (h.rise.imp fun h => by simpa using Int.le_of_lt h)
theorem fine_empty : Net.empty.Fine := ⟨empty_ok, live_empty, List.Pairwise.nil⟩
theorem put_ids (n : Net) (id : Int) (c : Conn) : (n.put id c).conns.map (·.1) = n.conns.map (·.1) := by
  unfold Net.put
  simp only [List.map_map]
  refine List.map_congr_left fun p _ => ?_
  simp only [Function.comp]
  split
  · rename_i h
    exact (by simpa using h : p.1 = id).symm
  · rfl
theorem Net.Fine.only (h : n.Fine) (q : Int × Conn → Bool) : (n.only q).Fine := ⟨only_ok h.ok q, only_live h.live q, h.rise.sublist ((List.filter_sublist).map _)⟩
theorem Net.Fine.del (h : n.Fine) (id : Int) : (n.del id).Fine := h.only _
theorem Net.Fine.put (h : n.Fine) (hg : n.get id = some c) (h0 : c'.p0.way.length ≤ 131072) (h1 : c'.p1.way.length ≤ 131072) (hu : c'.a ≠ c'.b) (hr : rested c' = false) : (n.put id c').Fine :=
  ⟨h.ok.put hg h0 h1 hu, live_put h.live id hr, by rw [put_ids]; exact h.rise⟩
theorem Net.Fine.rest (h : n.Fine) (hg : n.get id = some c) (h0 : c'.p0.way.length ≤ 131072) (h1 : c'.p1.way.length ≤ 131072) (hu : c'.a ≠ c'.b) : (n.rest id c').Fine := by
  unfold Net.rest
  split
  · exact h.del id
  · rename_i hr
    exact h.put hg h0 h1 hu (by simpa using hr)
theorem Net.Fine.dial (h : n.Fine) (a b : Int) : (n.dial a b).1.Fine := by
  refine ⟨h.ok.dial a b, ?_, ?_⟩
  · unfold Net.dial
    split
    · exact h.live
    · split
      · exact h.live
      · intro p hp
        rcases List.mem_append.1 hp with hp | hp
        · exact h.live p hp
        · simp only [List.mem_singleton] at hp; subst hp; rfl
  · unfold Net.dial
    split
    · exact h.rise
    · split
      · exact h.rise
      · simp only [List.map_append, List.map_cons, List.map_nil]
        refine List.pairwise_append.2 ⟨h.rise, List.pairwise_singleton _ _, fun x hx y hy => ?_⟩
        obtain ⟨p, hp, rfl⟩ := List.mem_map.1 hx
        have := h.ok.ids p hp
        simp at hy
        omega
theorem Net.Fine.send (h : n.Fine) (id node : Int) (bs : List UInt8) : (n.send id node bs).1.Fine := by
  unfold Net.send
  cases hg : n.get id with
  | none => exact h
  | some c =>
    obtain ⟨l0, l1, hu⟩ := get_of h.ok hg
    simp only
    split
    · exact h
    · split
      · exact h
      · rename_i hs
        split
        · exact h
        · rename_i hl
          generalize 1 - c.end_ node = j at *
          unfold Conn.to at hs hl ⊢
          unfold Conn.set
          by_cases hj : j = 0
          · simp only [hj, if_true] at hs hl ⊢
            refine h.put hg ?_ l1 hu ?_
            · simp only [List.length_append]; omega
            · simp [rested, hs]
          · simp only [hj, if_false] at hs hl ⊢
            refine h.put hg l0 ?_ hu ?_
            · simp only [List.length_append]; omega
            · simp [rested, hs]
theorem Net.Fine.carry (h : n.Fine) (id node most : Int) : (n.carry id node most).1.Fine := by
  unfold Net.carry
  cases hg : n.get id with
  | none => exact h
  | some c =>
    obtain ⟨l0, l1, hu⟩ := get_of h.ok hg
    simp only
    split
    · exact h
    · split
      · exact h
      · generalize c.end_ node = j at *
        unfold Conn.to Conn.set
        by_cases hj : j = 0
        · simp only [hj, if_true]
          exact h.rest hg (by simp only [List.length_drop]; omega) l1 hu
        · simp only [hj, if_false]
          exact h.rest hg l0 (by simp only [List.length_drop]; omega) hu
theorem Net.Fine.close (h : n.Fine) (id node : Int) : (n.close id node).1.Fine := by
  unfold Net.close
  cases hg : n.get id with
  | none => exact h
  | some c =>
    obtain ⟨l0, l1, hu⟩ := get_of h.ok hg
    simp only
    split
    · exact h
    · split
      · exact h
      · generalize 1 - c.end_ node = j at *
        unfold Conn.to Conn.set
        by_cases hj : j = 0
        · simp only [hj, if_true]
          exact h.rest hg l0 l1 hu
        · simp only [hj, if_false]
          exact h.rest hg l0 l1 hu
theorem Net.Fine.cut (h : n.Fine) (id : Int) : (n.cut id).1.Fine := by
  unfold Net.cut; split
  · exact h
  · exact h.del id
theorem Net.Fine.drop (h : n.Fine) (node : Int) : (n.drop node).1.Fine := h.only _
theorem cut_cut (n : Net) (id : Int) : n.cut' id = n.cut id := rfl
/-! ### what a call leaves alone -/
theorem get_put_other {i : Int} (h : i ≠ id) : (n.put id c').get i = n.get i := by
  unfold Net.get Net.put
  simp only [List.find?_map, Option.map_map]
  have e : ((fun p : Int × Conn => p.1 == i) ∘ fun p : Int × Conn => if (p.1 == id) = true then (id, c') else p) = fun p => p.1 == i := by
    funext p
    simp only [Function.comp]
    split
    · rename_i hp
      have : p.1 = id := by simpa using hp
      rw [this]
    · rfl
  rw [e]
  cases hf : n.conns.find? (fun p => p.1 == i) with
  | none => rfl
  | some p =>
    have hp : p.1 = i := by have := List.find?_some hf; simpa using this
    simp only [Option.map_some, Function.comp]
    rw [if_neg (by simpa [hp] using h)]
theorem get_only_other {q : Int × Conn → Bool} {i : Int} (h : ∀ p ∈ n.conns, p.1 = i → q p = true) : (n.only q).get i = n.get i := by
  unfold Net.get Net.only
  simp only
  congr 1
  generalize n.conns = l0 at h
  induction l0 with
  | nil => rfl
  | cons x l ih =>
    have ih := ih fun p hp => h p (List.mem_cons_of_mem _ hp)
    by_cases hi : x.1 = i
    · rw [List.filter_cons, h x (by simp) hi]
      simp [hi]
    · rw [List.filter_cons]
      have hb : (x.1 == i) = false := by simpa using hi
      split
      · rw [List.find?_cons, List.find?_cons, hb]; exact ih
      · rw [List.find?_cons, hb]; exact ih
theorem get_del_other {i : Int} (h : i ≠ id) : (n.del id).get i = n.get i := get_only_other (q := fun p => p.1 != id) fun p _ hp => by simp [hp, h]
theorem get_rest_other {i : Int} (h : i ≠ id) : (n.rest id c').get i = n.get i := by
  unfold Net.rest; split
  · exact get_del_other h
  · exact get_put_other h
theorem send_other {i : Int} (h : i ≠ id) (node : Int) (bs : List UInt8) : (n.send id node bs).1.get i = n.get i := by
  unfold Net.send
  cases n.get id with
  | none => rfl
  | some c => simp only; split; rfl; split; rfl; split; rfl; exact get_put_other h
theorem carry_other {i : Int} (h : i ≠ id) (node most : Int) : (n.carry id node most).1.get i = n.get i := by
  unfold Net.carry
  cases n.get id with
  | none => rfl
  | some c => simp only; split; rfl; split; rfl; exact get_rest_other h
theorem close_other {i : Int} (h : i ≠ id) (node : Int) : (n.close id node).1.get i = n.get i := by
  unfold Net.close
  cases n.get id with
  | none => rfl
  | some c => simp only; split; rfl; split; rfl; exact get_rest_other h
theorem cut_other {i : Int} (h : i ≠ id) : (n.cut id).1.get i = n.get i := by
  unfold Net.cut; split
  · rfl
  · exact get_del_other h

/-! ### what is gone stays away -/
def Net.Gone (n : Net) (i : Int) : Prop := i ≤ n.last ∧ n.get i = none
theorem gone_dial (h : n.Ok) {i : Int} (hg : n.Gone i) (a b : Int) : (n.dial a b).1.Gone i := ⟨Int.le_trans hg.1 (dial_last n a b).1, by rw [dial_get h a b i hg.1]; exact hg.2⟩
theorem gone_of {m : Net} {i : Int} (hg : n.Gone i) (hl : m.last = n.last) (ho : i ≠ id → m.get i = n.get i) (hs : n.get id = none → m = n) : m.Gone i := by
  refine ⟨by rw [hl]; exact hg.1, ?_⟩
  by_cases hi : i = id
  · subst hi
    rw [hs hg.2]
    exact hg.2
  · rw [ho hi]
    exact hg.2
theorem gone_send {i : Int} (hg : n.Gone i) (id node : Int) (bs : List UInt8) : (n.send id node bs).1.Gone i := gone_of (id := id) hg (send_last ..) (fun h => send_other h node bs) fun h => by unfold Net.send; rw [h]
theorem gone_carry {i : Int} (hg : n.Gone i) (id node most : Int) : (n.carry id node most).1.Gone i := gone_of (id := id) hg (carry_last ..) (fun h => carry_other h node most) fun h => by unfold Net.carry; rw [h]
theorem gone_close {i : Int} (hg : n.Gone i) (id node : Int) : (n.close id node).1.Gone i := gone_of (id := id) hg (close_last ..) (fun h => close_other h node) fun h => by unfold Net.close; rw [h]
theorem gone_cut {i : Int} (hg : n.Gone i) (id : Int) : (n.cut id).1.Gone i := gone_of (id := id) hg (cut_last ..) (fun h => cut_other h) fun h => by unfold Net.cut; rw [h]
theorem gone_only {i : Int} (hg : n.Gone i) (q : Int × Conn → Bool) : (n.only q).Gone i := by
  refine ⟨hg.1, ?_⟩
  unfold Net.get Net.only
  rw [Option.map_eq_none_iff, List.find?_eq_none]
  intro p hp
  have h2 := not_of_get hg.2 p (List.mem_filter.1 hp).1
  simpa using h2
theorem gone_drop {i : Int} (hg : n.Gone i) (node : Int) : (n.drop node).1.Gone i := gone_only hg _
end
end Link
end Go.Proofs.Ytcdeknbbeghljaa
