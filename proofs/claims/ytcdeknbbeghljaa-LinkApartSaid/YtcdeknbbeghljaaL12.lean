/- LinkOrder: the plain law: what comes to each end is a beginning of what the other one sent. -/
import Derived.Test.YtcdeknbbeghljaaL8
namespace Go.Proofs.Ytcdeknbbeghljaa.Link

theorem get_append_other {n : Net} {id : Int} {x : Int × Conn} (hx : x.1 ≠ id) : ({ n with conns := n.conns ++ [x] } : Net).get id = n.get id := by
  unfold Net.get
  simp only [List.find?_append]
  cases h : n.conns.find? (·.1 == id) with
  | some p => rfl
  | none => simp [hx]

theorem get_last (n : Net) (id l : Int) : ({ n with last := l } : Net).get id = n.get id := rfl

theorem Net.Ok.dial {n : Net} (h : n.Ok) (a b : Int) : (n.dial a b).1.Ok := by
  unfold Net.dial
  split
  · exact h
  · rename_i hab
    split
    · exact h
    · rename_i hf
      have hl := h.low
      refine ⟨by simp only; omega, ?_, ?_, ?_, ?_, ?_⟩
      · intro p hp
        rcases List.mem_append.1 hp with hp | hp
        · have := h.ids p hp; simp only; omega
        · simp only [List.mem_singleton] at hp; subst hp; simp only; omega
      · simp only [List.map_append, List.map_cons, List.map_nil, List.nodup_append]
        refine ⟨h.apart, by simp, fun x hx y hy => ?_⟩
        obtain ⟨p, hp, rfl⟩ := List.mem_map.1 hx
        have := h.ids p hp
        simp at hy
        omega
      · intro p hp
        rcases List.mem_append.1 hp with hp | hp
        · exact h.fits p hp
        · simp only [List.mem_singleton] at hp; subst hp; simp
      · simp only [List.length_append, List.length_cons, List.length_nil]; omega
      · intro p hp
        rcases List.mem_append.1 hp with hp | hp
        · exact h.unlike p hp
        · simp only [List.mem_singleton] at hp; subst hp; simp only; omega

theorem dial_get {n : Net} (h : n.Ok) (a b id : Int) (hid : id ≤ n.last) : (n.dial a b).1.get id = n.get id := by
  unfold Net.dial
  split
  · rfl
  · split
    · rfl
    · rw [get_last]
      exact get_append_other (by simp only; omega)

theorem dial_last (n : Net) (a b : Int) : n.last ≤ (n.dial a b).1.last ∧ (n.dial a b).1.last ≤ n.last + 1 := by
  unfold Net.dial
  split
  · simp; omega
  · split <;> simp <;> omega

theorem get_of {n : Net} (h : n.Ok) {id : Int} {c : Conn} (hg : n.get id = some c) : c.p0.way.length ≤ 131072 ∧ c.p1.way.length ≤ 131072 ∧ c.a ≠ c.b := by
  obtain ⟨l1, l2, hs⟩ := split_of_get hg
  have hm : (id, c) ∈ n.conns := by rw [hs]; simp
  exact ⟨(h.fits _ hm).1, (h.fits _ hm).2, h.unlike _ hm⟩

theorem get_put' {n : Net} {id : Int} {c c' : Conn} (hok : n.Ok) (hg : n.get id = some c) : (n.put id c').get id = some c' := get_put hok hg
theorem get_del {n : Net} (id : Int) : (n.del id).get id = none := by
  unfold Net.get Net.del
  simp only [Option.map_eq_none_iff, List.find?_eq_none, List.mem_filter]
  rintro p ⟨_, hp⟩
  simpa using hp

theorem j0 : ((1 : Int) - 0 = 0) = False := by simp
theorem j1 : ((1 : Int) - 1 = 0) = True := by simp

/-- what comes, what is on the way, what was sent. -/
structure Ord (n : Net) (s0 s1 c0 c1 : List UInt8) : Prop where
  ok : n.Ok
  one : 1 ≤ n.last
  there : ∀ c, n.get 1 = some c → c.a = 0 ∧ c.b = 1 ∧ s0 = c0 ++ c.p1.way ∧ s1 = c1 ++ c.p0.way
  gone : n.get 1 = none → s0 = c0 ∧ s1 = c1

variable {n : Net} {s0 s1 c0 c1 : List UInt8}

theorem Ord.dial (h : Ord n s0 s1 c0 c1) (a b : Int) : Ord (n.dial a b).1 s0 s1 c0 c1 := by
  have hg := dial_get h.ok a b 1 h.one
  exact ⟨h.ok.dial a b, Int.le_trans h.one (dial_last n a b).1, fun c hc => h.there c (hg ▸ hc), fun hc => h.gone (hg ▸ hc)⟩

theorem Ord.send0 (h : Ord n s0 s1 c0 c1) (bs : List UInt8) : ((n.send 1 0 bs).2 = 0 → Ord (n.send 1 0 bs).1 (s0 ++ bs) s1 c0 c1) ∧ ((n.send 1 0 bs).2 ≠ 0 → (n.send 1 0 bs).1 = n) := by
  unfold Net.send
  cases hg : n.get 1 with
  | none => simp
  | some c =>
    obtain ⟨ha, hb, hs0, hs1⟩ := h.there c hg
    obtain ⟨f0, f1, fu⟩ := get_of h.ok hg
    have he : c.end_ 0 = 0 := by simp [Conn.end_, ha]
    simp only [he, Conn.to, Conn.set, j0, if_false]
    rw [if_neg (by decide)]
    split
    · simp
    · split
      · simp
      · rename_i hf
        refine ⟨fun _ => ⟨h.ok.put hg f0 (by simp; omega) fu, h.one, fun c' hc' => ?_, fun hc' => ?_⟩, fun h => absurd rfl h⟩
        · rw [get_put h.ok hg] at hc'
          cases hc'
          exact ⟨ha, hb, by simp [hs0], hs1⟩
        · rw [get_put h.ok hg] at hc'; cases hc'

theorem Ord.send1 (h : Ord n s0 s1 c0 c1) (bs : List UInt8) : ((n.send 1 1 bs).2 = 0 → Ord (n.send 1 1 bs).1 s0 (s1 ++ bs) c0 c1) ∧ ((n.send 1 1 bs).2 ≠ 0 → (n.send 1 1 bs).1 = n) := by
  unfold Net.send
  cases hg : n.get 1 with
  | none => simp
  | some c =>
    obtain ⟨ha, hb, hs0, hs1⟩ := h.there c hg
    obtain ⟨f0, f1, fu⟩ := get_of h.ok hg
    have he : c.end_ 1 = 1 := by simp [Conn.end_, ha, hb]
    simp only [he, Conn.to, Conn.set, j1, if_true]
    rw [if_neg (by decide)]
    split
    · simp
    · split
      · simp
      · rename_i hf
        refine ⟨fun _ => ⟨h.ok.put hg (by simp; omega) f1 fu, h.one, fun c' hc' => ?_, fun hc' => ?_⟩, fun h => absurd rfl h⟩
        · rw [get_put h.ok hg] at hc'
          cases hc'
          exact ⟨ha, hb, hs0, by simp [hs1]⟩
        · rw [get_put h.ok hg] at hc'; cases hc'

/-- behind 'rest'. -/
theorem Ord.rest {c c' : Conn} (hok : n.Ok) (h1 : 1 ≤ n.last) (hg : n.get 1 = some c) (ha : c'.a = 0) (hb : c'.b = 1) (f0 : c'.p0.way.length ≤ 131072) (f1 : c'.p1.way.length ≤ 131072) (hs0 : s0 = c0 ++ c'.p1.way) (hs1 : s1 = c1 ++ c'.p0.way) :
    Ord (n.rest 1 c') s0 s1 c0 c1 := by
  unfold Net.rest
  split
  · rename_i hr
    refine ⟨hok.del 1, h1, fun x hx => ?_, fun _ => ?_⟩
    · rw [get_del] at hx; cases hx
    · simp only [rested, Bool.and_eq_true, List.isEmpty_iff] at hr
      rw [hs0, hs1, hr.1.2, hr.2.2]
      simp
  · refine ⟨hok.put hg f0 f1 (by rw [ha, hb]; decide), h1, fun x hx => ?_, fun hx => ?_⟩
    · rw [get_put hok hg] at hx
      cases hx
      exact ⟨ha, hb, hs0, hs1⟩
    · rw [get_put hok hg] at hx; cases hx

theorem Ord.carry1 (h : Ord n s0 s1 c0 c1) (most : Int) : Ord (n.carry 1 1 most).1 s0 s1 (c0 ++ (n.carry 1 1 most).2.1) c1 := by
  unfold Net.carry
  cases hg : n.get 1 with
  | none => simpa using h
  | some c =>
    obtain ⟨ha, hb, hs0, hs1⟩ := h.there c hg
    obtain ⟨f0, f1, fu⟩ := get_of h.ok hg
    have he : c.end_ 1 = 1 := by simp [Conn.end_, ha, hb]
    simp only [he, Conn.to, Conn.set]
    rw [if_neg (by decide)]
    split
    · simpa using h
    · refine Ord.rest h.ok h.one hg ha hb f0 (by simp; omega) ?_ hs1
      simp [hs0, List.append_assoc, List.take_append_drop]

theorem Ord.carry0 (h : Ord n s0 s1 c0 c1) (most : Int) : Ord (n.carry 1 0 most).1 s0 s1 c0 (c1 ++ (n.carry 1 0 most).2.1) := by
  unfold Net.carry
  cases hg : n.get 1 with
  | none => simpa using h
  | some c =>
    obtain ⟨ha, hb, hs0, hs1⟩ := h.there c hg
    obtain ⟨f0, f1, fu⟩ := get_of h.ok hg
    have he : c.end_ 0 = 0 := by simp [Conn.end_, ha]
    simp only [he, Conn.to, Conn.set]
    rw [if_neg (by decide)]
    split
    · simpa using h
    · refine Ord.rest h.ok h.one hg ha hb (by simp; omega) f1 hs0 ?_
      simp [hs1, List.append_assoc, List.take_append_drop]

theorem Ord.close (h : Ord n s0 s1 c0 c1) (node : Int) : Ord (n.close 1 node).1 s0 s1 c0 c1 := by
  unfold Net.close
  cases hg : n.get 1 with
  | none => exact h
  | some c =>
    obtain ⟨ha, hb, hs0, hs1⟩ := h.there c hg
    obtain ⟨f0, f1, fu⟩ := get_of h.ok hg
    simp only
    split
    · exact h
    · split
      · exact h
      · rcases end_cases c node with he | he | he
        · contradiction
        · rw [he]
          exact Ord.rest h.ok h.one hg (by simp [Conn.set, ha]) (by simp [Conn.set, hb]) (by simp [Conn.set, f0]) (by simp [Conn.set, Conn.to, f1]) (by simp [Conn.set, Conn.to, hs0]) (by simp [Conn.set, hs1])
        · rw [he]
          exact Ord.rest h.ok h.one hg (by simp [Conn.set, ha]) (by simp [Conn.set, hb]) (by simp [Conn.set, Conn.to, f0]) (by simp [Conn.set, f1]) (by simp [Conn.set, hs0]) (by simp [Conn.set, Conn.to, hs1])

theorem Ord.begins (h : Ord n s0 s1 c0 c1) : (c0.length ≤ s0.length ∧ s0.take c0.length = c0) ∧ (c1.length ≤ s1.length ∧ s1.take c1.length = c1) := by
  cases hg : n.get 1 with
  | none =>
    obtain ⟨rfl, rfl⟩ := h.gone hg
    simp
  | some c =>
    obtain ⟨_, _, rfl, rfl⟩ := h.there c hg
    simp

/-- all that is on the way comes. -/
theorem Ord.all1 (h : Ord n s0 s1 c0 c1) : s0 = c0 ++ (n.carry 1 1 1048576).2.1 := by
  unfold Net.carry
  cases hg : n.get 1 with
  | none => simp [(h.gone hg).1]
  | some c =>
    obtain ⟨ha, hb, hs0, hs1⟩ := h.there c hg
    obtain ⟨f0, f1, fu⟩ := get_of h.ok hg
    have he : c.end_ 1 = 1 := by simp [Conn.end_, ha, hb]
    simp only [he, Conn.to]
    rw [if_neg (by decide), if_neg (by decide), if_neg (by decide)]
    simp only
    rw [List.take_of_length_le (by omega), hs0]
theorem Ord.all0 (h : Ord n s0 s1 c0 c1) : s1 = c1 ++ (n.carry 1 0 1048576).2.1 := by
  unfold Net.carry
  cases hg : n.get 1 with
  | none => simp [(h.gone hg).2]
  | some c =>
    obtain ⟨ha, hb, hs0, hs1⟩ := h.there c hg
    obtain ⟨f0, f1, fu⟩ := get_of h.ok hg
    have he : c.end_ 0 = 0 := by simp [Conn.end_, ha]
    simp only [he, Conn.to]
    rw [if_neg (by decide), if_neg (by decide), if_pos (by decide)]
    simp only
    rw [List.take_of_length_le (by omega), hs1]

theorem rest_last (n : Net) (id : Int) (c : Conn) : (n.rest id c).last = n.last := by unfold Net.rest; split <;> rfl
theorem send_last (n : Net) (id node : Int) (bs : List UInt8) : (n.send id node bs).1.last = n.last := by
  unfold Net.send
  split
  · rfl
  · split
    · rfl
    · simp only; split
      · rfl
      · split <;> rfl
theorem carry_last (n : Net) (id node most : Int) : (n.carry id node most).1.last = n.last := by
  unfold Net.carry
  split
  · rfl
  · split
    · rfl
    · split
      · rfl
      · exact rest_last _ _ _
theorem close_last (n : Net) (id node : Int) : (n.close id node).1.last = n.last := by
  unfold Net.close
  split
  · rfl
  · split
    · rfl
    · simp only; split
      · rfl
      · exact rest_last _ _ _
theorem ord_begin : Ord (oneNet 0 1 [] []) [] [] [] [] :=
  ⟨one_ok (by simp) (by simp) (by decide), by simp [oneNet], fun c hc => by
    have : (oneNet 0 1 [] []).get 1 = some ⟨0, 1, ⟨[], false⟩, ⟨[], false⟩⟩ := rfl
    rw [this] at hc
    cases hc
    simp, fun _ => ⟨rfl, rfl⟩⟩
end Go.Proofs.Ytcdeknbbeghljaa.Link
