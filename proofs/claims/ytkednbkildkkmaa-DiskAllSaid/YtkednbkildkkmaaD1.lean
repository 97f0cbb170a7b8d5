/- disk: the plain model (no program). -/
namespace Go.Proofs.Ytkednbkildkkmaa.Disk

abbrev Bytes := List UInt8

section
variable {α : Type}
/-- names and what they lead to, in whatever order. -/
abbrev Dict (α : Type) := List (Bytes × α)
def Dict.get (f : Dict α) (n : Bytes) : Option α := (f.find? (·.1 == n)).map (·.2)
def Dict.del (f : Dict α) (n : Bytes) : Dict α := f.filter (·.1 != n)
def Dict.put (f : Dict α) (n : Bytes) (x : α) : Dict α := (n, x) :: Dict.del f n
/-- each name once. -/
def Dict.Ok (f : Dict α) : Prop := (f.map (·.1)).Nodup
end

abbrev Files := Dict Bytes

structure Deed where
  kind : Nat
  name : Bytes
  at_ : Nat
  b : Bytes

def overlay (old : Bytes) (i : Nat) (b : Bytes) : Bytes :=
  (old ++ List.replicate (i + b.length - old.length) 0).take i ++ b ++ (old ++ List.replicate (i + b.length - old.length) 0).drop (i + b.length)

def Files.does (f : Files) (a : Deed) : Files :=
  if a.kind = 2 then Dict.del f a.name
  else if a.kind = 1 then (match Dict.get f a.name with | none => f | some x => Dict.put f a.name (x.take a.at_))
  else Dict.put f a.name (overlay ((Dict.get f a.name).getD []) a.at_ a.b)

structure Dk where
  room : Nat
  seen : Files
  lasting : Files
  pending : List Deed
  held : Dict Nat

def Dk.empty (room : Nat) : Dk := ⟨room, [], [], [], []⟩

def okByte (c : UInt8) : Bool := decide (97 ≤ c.toNat ∧ c.toNat ≤ 122) || decide (48 ≤ c.toNat ∧ c.toNat ≤ 57) || decide (c.toNat = 46)
def may (s : Bytes) : Bool := s.all okByte && (decide (1 ≤ s.length) && decide (s.length ≤ 24))

def used (h : Dict Nat) : Nat := (h.map (·.2)).sum

def Dk.look (d : Dk) (name : Bytes) : Int := if may name = false then 6 else if (Dict.get d.seen name).isNone then 20 else 0

def Dk.act (d : Dk) (a : Deed) : Dk :=
  { d with seen := Files.does d.seen a, pending := d.pending ++ [a],
           held := match Dict.get (Files.does d.seen a) a.name with
             | none => d.held
             | some x => Dict.put d.held a.name (max ((Dict.get d.held a.name).getD 0) x.length) }

def Dk.writeAt (d : Dk) (name : Bytes) (i : Nat) (b : Bytes) : Dk × Int :=
  if (b.length : Int) > d.room - used d.held + ((Dict.get d.held name).getD 0 : Nat) - i then (d, 7) else (d.act ⟨0, name, i, b⟩, 0)
def Dk.write (d : Dk) (name : Bytes) (b : Bytes) : Dk × Int :=
  if may name = false then (d, 6) else
  match Dict.get d.seen name with
  | none => if 4096 ≤ d.seen.length then (d, 7) else d.writeAt name 0 b
  | some x => d.writeAt name x.length b
def Dk.cut (d : Dk) (name : Bytes) (n : Int) : Dk × Int :=
  if may name = false then (d, 6) else
  match Dict.get d.seen name with
  | none => (d, 20)
  | some x => if n < 0 ∨ n > x.length then (d, 1) else (d.act ⟨1, name, n.toNat, []⟩, 0)
def Dk.drop (d : Dk) (name : Bytes) : Dk × Int :=
  if may name = false then (d, 6) else
  match Dict.get d.seen name with
  | none => (d, 20)
  | some _ => (d.act ⟨2, name, 0, []⟩, 0)
def Dk.read (d : Dk) (name : Bytes) : Bytes × Int :=
  if may name = false then ([], 6) else
  match Dict.get d.seen name with
  | none => ([], 20)
  | some x => (x, 0)
def leB (x y : Bytes) : Bool := decide (x ≤ y)
def Dk.list (d : Dk) : List Bytes := (d.seen.map (·.1)).mergeSort leB
def Dk.settle (d : Dk) (asked : Deed → Bool) : Dk :=
  { d with lasting := (d.pending.filter asked).foldl Files.does d.lasting, pending := d.pending.filter fun a => !asked a }
def freed (h : Dict Nat) (lasting : Files) (name : Bytes) : Dict Nat :=
  match Dict.get lasting name with
  | none => Dict.del h name
  | some x => if x.length = 0 then Dict.del h name else Dict.put h name x.length
def Dk.sync (d : Dk) (name : Bytes) : Dk × Int :=
  if d.look name = 0 then
    ({ d.settle (fun a => a.name == name) with held := freed d.held (d.settle (fun a => a.name == name)).lasting name }, 0)
  else (d, d.look name)
/-- what lasts is what is seen. -/
def lens (f : Files) : Dict Nat := (f.filter fun p => p.2.length != 0).map fun p => (p.1, p.2.length)
def Dk.rest (d : Dk) : Dk := { d with held := lens d.lasting, seen := d.lasting }
def Dk.flush (d : Dk) : Dk := (d.settle fun _ => true).rest
def keeps : List Deed → List Bool → List Deed
  | a :: l, k :: ks => if k then a :: keeps l ks else keeps l ks
  | _, _ => []
/-- of the last act kept, if that is bytes, not all. -/
def torn (l : List Deed) (tear : Int) : List Deed :=
  match l.getLast? with
  | none => []
  | some a => if a.kind = 0 then l.dropLast ++ [{ a with b := a.b.take (a.b.length - min (max tear 0).toNat a.b.length) }] else l
def Dk.crash (d : Dk) (keep : List Bool) (tear : Int) : Dk :=
  Dk.rest { d with lasting := (torn (keeps d.pending keep) tear).foldl Files.does d.lasting, pending := [] }

end Go.Proofs.Ytkednbkildkkmaa.Disk
