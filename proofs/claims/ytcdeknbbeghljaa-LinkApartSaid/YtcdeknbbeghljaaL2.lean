/- link: the plain model (no program): connections by number, what is on the way in each direction. -/
namespace Go.Proofs.Ytcdeknbbeghljaa.Link

structure Pipe where
  way : List UInt8
  shut : Bool

structure Conn where
  a : Int
  b : Int
  p0 : Pipe
  p1 : Pipe

/-- connections in whatever order, and the last number. -/
structure Net where
  conns : List (Int × Conn)
  last : Int

def Net.empty : Net := ⟨[], 0⟩

/-- the pipe to end 0 or 1. -/
def Conn.to (c : Conn) (i : Int) : Pipe := if i = 0 then c.p0 else c.p1
def Conn.set (c : Conn) (i : Int) (p : Pipe) : Conn := if i = 0 then { c with p0 := p } else { c with p1 := p }
/-- which end a machine is; -1: none. -/
def Conn.end_ (c : Conn) (node : Int) : Int := if c.a = node then 0 else if c.b = node then 1 else -1

def rested (c : Conn) : Bool := c.p0.shut && c.p0.way.isEmpty && (c.p1.shut && c.p1.way.isEmpty)

/-- what a number leads to. -/
def Net.get (n : Net) (id : Int) : Option Conn := (n.conns.find? (·.1 == id)).map (·.2)

/-- numbers are from 1 to the last, each once; no more is on the way than may be. -/
structure Net.Ok (n : Net) : Prop where
  low : 0 ≤ n.last
  ids : ∀ p ∈ n.conns, 1 ≤ p.1 ∧ p.1 ≤ n.last
  apart : (n.conns.map (·.1)).Nodup
  fits : ∀ p ∈ n.conns, p.2.p0.way.length ≤ 131072 ∧ p.2.p1.way.length ≤ 131072
  few : n.conns.length ≤ 64
  unlike : ∀ p ∈ n.conns, p.2.a ≠ p.2.b

def Net.put (n : Net) (id : Int) (c : Conn) : Net := { n with conns := n.conns.map fun p => if p.1 == id then (id, c) else p }
def Net.del (n : Net) (id : Int) : Net := { n with conns := n.conns.filter fun p => p.1 != id }

def Net.dial (n : Net) (a b : Int) : Net × Int × Int :=
  if a = b ∨ min a b < 0 ∨ max a b ≥ 16 then (n, 0, 1)
  else if 64 ≤ n.conns.length then (n, 0, 7)
  else ({ conns := n.conns ++ [(n.last + 1, ⟨a, b, ⟨[], false⟩, ⟨[], false⟩⟩)], last := n.last + 1 }, n.last + 1, 0)

def Net.send (n : Net) (id from_ : Int) (bs : List UInt8) : Net × Int :=
  match n.get id with
  | none => (n, 30)
  | some c =>
    if c.end_ from_ = -1 then (n, 1) else
    let j := 1 - c.end_ from_
    if (c.to j).shut then (n, 31)
    else if 131072 < (c.to j).way.length + bs.length then (n, 7)
    else (n.put id (c.set j { c.to j with way := (c.to j).way ++ bs }), 0)

def Net.rest (n : Net) (id : Int) (c : Conn) : Net := if rested c then n.del id else n.put id c

def Net.carry (n : Net) (id to most : Int) : Net × List UInt8 × Int :=
  match n.get id with
  | none => (n, [], 30)
  | some c =>
    if c.end_ to = -1 then (n, [], 1) else
    if most < 0 then (n, [], 1) else
    let p := c.to (c.end_ to)
    let k := min most.toNat p.way.length
    (n.rest id (c.set (c.end_ to) { p with way := p.way.drop k }), p.way.take k, 0)

def Net.close (n : Net) (id from_ : Int) : Net × Int :=
  match n.get id with
  | none => (n, 30)
  | some c =>
    if c.end_ from_ = -1 then (n, 1) else
    let j := 1 - c.end_ from_
    if (c.to j).shut then (n, 31)
    else (n.rest id (c.set j { c.to j with shut := true }), 0)

/-! ### how the list stands round one number -/
theorem find_split {α : Type} {l1 l2 : List (Int × α)} {id : Int} {c : α} (h : ((l1 ++ (id, c) :: l2).map (·.1)).Nodup) : (l1 ++ (id, c) :: l2).find? (·.1 == id) = some (id, c) := by
  have h1 : ∀ p ∈ l1, (p.1 == id) = false := by
    intro p hp
    simp only [List.map_append, List.map_cons, List.nodup_append, List.mem_map, List.mem_cons] at h
    have := h.2.2 p.1 ⟨p, hp, rfl⟩ id (.inl rfl)
    simpa using this
  rw [List.find?_append, List.find?_eq_none.2 (by simpa using h1)]
  simp

theorem get_split {n : Net} {l1 l2 : List (Int × Conn)} {id : Int} {c : Conn} (hn : n.conns = l1 ++ (id, c) :: l2) (h : (n.conns.map (·.1)).Nodup) : n.get id = some c := by
  unfold Net.get
  rw [hn] at h ⊢
  rw [find_split h]
  rfl

theorem split_of_get {n : Net} {id : Int} {c : Conn} (h : n.get id = some c) : ∃ l1 l2, n.conns = l1 ++ (id, c) :: l2 := by
  unfold Net.get at h
  cases hf : n.conns.find? (·.1 == id) with
  | none => rw [hf] at h; cases h
  | some p =>
    rw [hf] at h
    have hp : p.1 = id := by have := List.find?_some hf; simpa using this
    have hc : p.2 = c := by simpa using h
    obtain ⟨l1, l2, e⟩ := List.append_of_mem (List.mem_of_find?_eq_some hf)
    exact ⟨l1, l2, by rw [e, ← hp, ← hc]⟩

theorem not_of_get {n : Net} {id : Int} (h : n.get id = none) : ∀ p ∈ n.conns, p.1 ≠ id := by
  unfold Net.get at h
  intro p hp e
  rw [Option.map_eq_none_iff, List.find?_eq_none] at h
  have := h p hp
  simp [e] at this

theorem put_split {n : Net} {l1 l2 : List (Int × Conn)} {id : Int} {c c' : Conn} (hn : n.conns = l1 ++ (id, c) :: l2) (h : (n.conns.map (·.1)).Nodup) : (n.put id c').conns = l1 ++ (id, c') :: l2 := by
  unfold Net.put
  rw [hn] at h
  simp only [hn, List.map_append, List.map_cons, beq_self_eq_true, if_true]
  simp only [List.map_append, List.map_cons, List.nodup_append, List.nodup_cons, List.mem_map, List.mem_cons, not_exists, not_and] at h
  congr 1
  · conv => rhs; rw [← List.map_id l1]
    refine List.map_congr_left fun p hp => ?_
    have := h.2.2 p.1 ⟨p, hp, rfl⟩ id (.inl rfl)
    simp [this]
  · congr 1
    conv => rhs; rw [← List.map_id l2]
    refine List.map_congr_left fun p hp => ?_
    have := h.2.1.1 p hp
    simp [this]

theorem del_split {n : Net} {l1 l2 : List (Int × Conn)} {id : Int} {c : Conn} (hn : n.conns = l1 ++ (id, c) :: l2) (h : (n.conns.map (·.1)).Nodup) : (n.del id).conns = l1 ++ l2 := by
  unfold Net.del
  rw [hn] at h
  simp only [hn, List.filter_append]
  simp only [List.map_append, List.map_cons, List.nodup_append, List.nodup_cons, List.mem_map, List.mem_cons, not_exists, not_and] at h
  congr 1
  · refine List.filter_eq_self.2 fun p hp => ?_
    have := h.2.2 p.1 ⟨p, hp, rfl⟩ id (.inl rfl)
    simp [this]
  · rw [List.filter_cons]
    simp only [bne_self_eq_false, Bool.false_eq_true, if_false]
    refine List.filter_eq_self.2 fun p hp => ?_
    have := h.2.1.1 p hp
    simp [this]

end Go.Proofs.Ytcdeknbbeghljaa.Link
