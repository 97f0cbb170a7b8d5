/- disk: the plain model, its memory, files.does. (Several texts in one file, by merge.py.) -/
import Derived.Test.YtdbhccehbjhbpaaGreatDoorM1
import Derived.Deep.CutBlock
import Derived.Deep.DeepCutAuto
import Derived.Deep.RegionLaw
import Derived.Sort.MapsRangeIn
import Derived.Deep.RegionHeld3

/- disk: the plain model (no program). -/
namespace Go.Proofs.YtdbhccehbjhbpaaGreatDoor.Disk

abbrev Bytes := List UInt8

section
variable {α : Type}
/-- names and what they lead to, in whatever order. -/
abbrev Dict (α : Type) := List (Bytes × α)
def Dict.get (f : Dict α) (n : Bytes) : Option α := (f.find? (·.1 == n)).map (·.2)
def Dict.del (f : Dict α) (n : Bytes) : Dict α := f.filter (·.1 != n)
def Dict.put (f : Dict α) (n : Bytes) (x : α) : Dict α := (n, x) :: Dict.del f n
/-- each name once. -/
def Dict.Ok (f : Dict α) : Prop := (f.map (·.1)).Nodup
end

abbrev Files := Dict Bytes

structure Deed where
  kind : Nat
  name : Bytes
  at_ : Nat
  b : Bytes

def overlay (old : Bytes) (i : Nat) (b : Bytes) : Bytes :=
  (old ++ List.replicate (i + b.length - old.length) 0).take i ++ b ++ (old ++ List.replicate (i + b.length - old.length) 0).drop (i + b.length)

def Files.does (f : Files) (a : Deed) : Files :=
  if a.kind = 2 then Dict.del f a.name
  else if a.kind = 1 then (match Dict.get f a.name with | none => f | some x => Dict.put f a.name (x.take a.at_))
  else Dict.put f a.name (overlay ((Dict.get f a.name).getD []) a.at_ a.b)

structure Dk where
  room : Nat
  seen : Files
  lasting : Files
  pending : List Deed
  held : Dict Nat

def Dk.empty (room : Nat) : Dk := ⟨room, [], [], [], []⟩

def okByte (c : UInt8) : Bool := decide (97 ≤ c.toNat ∧ c.toNat ≤ 122) || decide (48 ≤ c.toNat ∧ c.toNat ≤ 57) || decide (c.toNat = 46)
def may (s : Bytes) : Bool := s.all okByte && (decide (1 ≤ s.length) && decide (s.length ≤ 24))

def used (h : Dict Nat) : Nat := (h.map (·.2)).sum

def Dk.look (d : Dk) (name : Bytes) : Int := if may name = false then 6 else if (Dict.get d.seen name).isNone then 20 else 0

def Dk.act (d : Dk) (a : Deed) : Dk :=
  { d with seen := Files.does d.seen a, pending := d.pending ++ [a],
           held := match Dict.get (Files.does d.seen a) a.name with
             | none => d.held
             | some x => Dict.put d.held a.name (max ((Dict.get d.held a.name).getD 0) x.length) }

def Dk.writeAt (d : Dk) (name : Bytes) (i : Nat) (b : Bytes) : Dk × Int :=
  if (b.length : Int) > d.room - used d.held + ((Dict.get d.held name).getD 0 : Nat) - i then (d, 7) else (d.act ⟨0, name, i, b⟩, 0)
def Dk.write (d : Dk) (name : Bytes) (b : Bytes) : Dk × Int :=
  if may name = false then (d, 6) else
  match Dict.get d.seen name with
  | none => if 4096 ≤ d.seen.length then (d, 7) else d.writeAt name 0 b
  | some x => d.writeAt name x.length b
def Dk.cut (d : Dk) (name : Bytes) (n : Int) : Dk × Int :=
  if may name = false then (d, 6) else
  match Dict.get d.seen name with
  | none => (d, 20)
  | some x => if n < 0 ∨ n > x.length then (d, 1) else (d.act ⟨1, name, n.toNat, []⟩, 0)
def Dk.drop (d : Dk) (name : Bytes) : Dk × Int :=
  if may name = false then (d, 6) else
  match Dict.get d.seen name with
  | none => (d, 20)
  | some _ => (d.act ⟨2, name, 0, []⟩, 0)
def Dk.read (d : Dk) (name : Bytes) : Bytes × Int :=
  if may name = false then ([], 6) else
  match Dict.get d.seen name with
  | none => ([], 20)
  | some x => (x, 0)
def leB (x y : Bytes) : Bool := decide (x ≤ y)
def Dk.list (d : Dk) : List Bytes := (d.seen.map (·.1)).mergeSort leB
def Dk.settle (d : Dk) (asked : Deed → Bool) : Dk :=
  { d with lasting := (d.pending.filter asked).foldl Files.does d.lasting, pending := d.pending.filter fun a => !asked a }
def freed (h : Dict Nat) (lasting : Files) (name : Bytes) : Dict Nat :=
  match Dict.get lasting name with
  | none => Dict.del h name
  | some x => if x.length = 0 then Dict.del h name else Dict.put h name x.length
def Dk.sync (d : Dk) (name : Bytes) : Dk × Int :=
  if d.look name = 0 then
    ({ d.settle (fun a => a.name == name) with held := freed d.held (d.settle (fun a => a.name == name)).lasting name }, 0)
  else (d, d.look name)
/-- what lasts is what is seen. -/
def lens (f : Files) : Dict Nat := (f.filter fun p => p.2.length != 0).map fun p => (p.1, p.2.length)
def Dk.rest (d : Dk) : Dk := { d with held := lens d.lasting, seen := d.lasting }
def Dk.flush (d : Dk) : Dk := (d.settle fun _ => true).rest
def keeps : List Deed → List Bool → List Deed
  | a :: l, k :: ks => if k then a :: keeps l ks else keeps l ks
  | _, _ => []
/-- of the last act kept, if that is bytes, not all. -/
def torn (l : List Deed) (tear : Int) : List Deed :=
  match l.getLast? with
  | none => []
  | some a => if a.kind = 0 then l.dropLast ++ [{ a with b := a.b.take (a.b.length - min (max tear 0).toNat a.b.length) }] else l
def Dk.crash (d : Dk) (keep : List Bool) (tear : Int) : Dk :=
  Dk.rest { d with lasting := (torn (keeps d.pending keep) tear).foldl Files.does d.lasting, pending := [] }

end Go.Proofs.YtdbhccehbjhbpaaGreatDoor.Disk

/- disk: laws of names and what they lead to. No program. -/
namespace Go.Proofs.YtdbhccehbjhbpaaGreatDoor
namespace Disk

section
variable {α : Type} {f g : Dict α} {n m : Bytes} {x y : α}
theorem get_nil : Dict.get ([] : Dict α) n = none := rfl
theorem get_mem (h : Dict.get f n = some x) : (n, x) ∈ f := by
  unfold Dict.get at h
  cases hf : f.find? (·.1 == n) with
  | none => rw [hf] at h; cases h
  | some p =>
    rw [hf] at h
    have h1 : p.1 = n := by have := List.find?_some hf; simpa using this
    have h2 : p.2 = x := by simpa using h
    have := List.mem_of_find?_eq_some hf
    rw [← h1, ← h2]; exact this
theorem get_none (h : Dict.get f n = none) : ∀ p ∈ f, p.1 ≠ n := by
  unfold Dict.get at h
  intro p hp e
  rw [Option.map_eq_none_iff, List.find?_eq_none] at h
  have := h p hp
  simp [e] at this
theorem get_none' (h : ∀ p ∈ f, p.1 ≠ n) : Dict.get f n = none := by
  unfold Dict.get
  rw [Option.map_eq_none_iff, List.find?_eq_none]
  intro p hp
  simpa using h p hp
theorem mem_uniq (hf : Dict.Ok f) {p q : Bytes × α} (hp : p ∈ f) (hq : q ∈ f) (h : p.1 = q.1) : p = q := by
  unfold Dict.Ok at hf
  induction f with
  | nil => cases hp
  | cons a l ih =>
    rw [List.map_cons, List.nodup_cons] at hf
    rcases List.mem_cons.1 hp with h1 | h1
    · rcases List.mem_cons.1 hq with h2 | h2
      · rw [h1, h2]
      · exact (hf.1 (List.mem_map.2 ⟨q, h2, by rw [← h, h1]⟩)).elim
    · rcases List.mem_cons.1 hq with h2 | h2
      · exact (hf.1 (List.mem_map.2 ⟨p, h1, by rw [h, h2]⟩)).elim
      · exact ih hf.2 h1 h2
theorem get_of_mem (hf : Dict.Ok f) (h : (n, x) ∈ f) : Dict.get f n = some x := by
  cases hg : Dict.get f n with
  | none => exact absurd rfl (get_none hg _ h)
  | some y => rw [(Prod.mk.inj (mem_uniq hf h (get_mem hg) rfl)).2]
theorem get_iff (hf : Dict.Ok f) : Dict.get f n = some x ↔ (n, x) ∈ f := ⟨get_mem, get_of_mem hf⟩
theorem Dict.Ok.perm (hf : Dict.Ok f) (h : f.Perm g) : Dict.Ok g := (h.map _).nodup_iff.1 hf
theorem get_perm (hf : Dict.Ok f) (h : f.Perm g) (n : Bytes) : Dict.get f n = Dict.get g n := by
  cases hg : Dict.get g n with
  | none => exact get_none' fun p hp => get_none hg p (h.mem_iff.1 hp)
  | some y => exact get_of_mem hf (h.mem_iff.2 (get_mem hg))
theorem Dict.Ok.del (hf : Dict.Ok f) (n : Bytes) : Dict.Ok (Dict.del f n) := hf.sublist ((List.filter_sublist).map _)
theorem mem_del {p : Bytes × α} : p ∈ Dict.del f n ↔ p ∈ f ∧ p.1 ≠ n := by unfold Dict.del; rw [List.mem_filter]; simp
theorem Dict.Ok.put (hf : Dict.Ok f) (n : Bytes) (x : α) : Dict.Ok (Dict.put f n x) := by
  unfold Dict.put Dict.Ok
  rw [List.map_cons, List.nodup_cons]
  refine ⟨fun h => ?_, hf.del n⟩
  obtain ⟨p, hp, e⟩ := List.mem_map.1 h
  exact (mem_del.1 hp).2 e
theorem get_del (n m : Bytes) : Dict.get (Dict.del f n) m = if m = n then none else Dict.get f m := by
  split
  · rename_i h
    subst h
    exact get_none' fun p hp => (mem_del.1 hp).2
  · rename_i h
    unfold Dict.get Dict.del
    rw [List.find?_filter]
    congr 2
    funext p
    by_cases hp : p.1 = m
    · simp [hp, h]
    · simp [hp]
theorem get_put (n m : Bytes) (x : α) : Dict.get (Dict.put f n x) m = if m = n then some x else Dict.get f m := by
  by_cases h : m = n
  · subst h
    simp [Dict.get, Dict.put]
  · have := get_del (f := f) n m
    rw [if_neg h] at this ⊢
    rw [← this]
    unfold Dict.get Dict.put
    rw [List.find?_cons]
    have h' : (n == m) = false := by simpa using (Ne.symm h)
    simp [h']
/-- what the rest is, where one is known. -/
theorem del_split {l1 l2 : Dict α} (h : (l1 ++ (n, x) :: l2).Perm f) (hf : Dict.Ok f) : (l1 ++ l2).Perm (Dict.del f n) := by
  have h1 := (h.filter (·.1 != n))
  refine List.Perm.trans (.of_eq ?_) h1
  have hok := hf.perm h.symm
  unfold Dict.Ok at hok
  rw [List.map_append, List.map_cons, List.nodup_append, List.nodup_cons] at hok
  obtain ⟨-, ⟨n2, -⟩, d⟩ := hok
  rw [List.filter_append, List.filter_cons]
  simp only [bne_self_eq_false, Bool.false_eq_true, if_false]
  congr 1
  · refine (List.filter_eq_self.2 fun p hp => ?_).symm
    have := d p.1 (List.mem_map.2 ⟨p, hp, rfl⟩) n (by simp)
    simpa using this
  · refine (List.filter_eq_self.2 fun p hp => ?_).symm
    simp only [bne_iff_ne, ne_eq]
    rintro e
    exact n2 (List.mem_map.2 ⟨p, hp, e⟩)
theorem put_split {l1 l2 : Dict α} (h : (l1 ++ (n, x) :: l2).Perm f) (hf : Dict.Ok f) (y : α) : (l1 ++ (n, y) :: l2).Perm (Dict.put f n y) :=
  List.perm_middle.trans ((del_split h hf).cons _)
theorem put_new (h : Dict.get f n = none) (y : α) : Dict.put f n y = (n, y) :: f := by
  unfold Dict.put
  congr 1
  unfold Dict.del
  exact List.filter_eq_self.2 fun p hp => by simpa using get_none h p hp
theorem del_none (h : Dict.get f n = none) : Dict.del f n = f := by
  unfold Dict.del
  exact List.filter_eq_self.2 fun p hp => by simpa using get_none h p hp
end
end Disk
end Go.Proofs.YtdbhccehbjhbpaaGreatDoor

/- disk in memory; the contracts of may, made, look. -/
namespace Go.Proofs.YtdbhccehbjhbpaaGreatDoor
open Go.RowKit
open Go.ChangeMaps (setBlock)
open Go.Maps (Keyed)
open Disk

/-- a text as a value. -/
def sv (l : Bytes) : Value := .string ⟨l.toArray⟩
theorem sv_of (s : ByteArray) : Value.string s = sv s.data.toList := by cases s; simp [sv]
theorem sv_inj {l m : Bytes} (h : sv l = sv m) : l = m := by
  unfold sv at h
  injection h with h
  injection h with h
  simpa using h
theorem strKeyed : Keyed Tryz.prog 9 := Go.Maps.string_keyed Tryz.underlying9
theorem svKey (l : Bytes) (h : l.length ≤ 9223372036854775807) : keyOf Tryz.prog 9 (sv l) = some (.string l) := by
  have h' : (ByteArray.mk l.toArray).size ≤ maxLen := by unfold maxLen; show l.toArray.size ≤ _; simpa using h
  simp [keyOf, Tryz.underlying9, mapKey, sv, h']
theorem zeroFilePtr (w : World) : (zeroValue 180).run Tryz.prog w = .ok (.pointer none) w := by kernel_rfl
theorem zeroInt (w : World) : (zeroValue 3).run Tryz.prog w = .ok (.int .i64 0) w := by kernel_rfl

def rFile (y : (Bytes × Bytes) × Value) : Res := rSome (fun a : Nat × Value => y.2 = .pointer (some ⟨a.1, 0, none⟩)) fun a => [rBlk a.1 190 #[a.2], rBytes a.2 y.1.2]
theorem fileLoc : Loc (fun (y : (Bytes × Bytes) × Value) w F => (rFile y).holds w F) := ⟨fun {y _ _ _} h hk => (rFile y).keep h hk, fun {y _ _} h => (rFile y).lt h⟩
def rFiles (bm : Nat) (f : Files) : Res :=
  rSome (fun ys : List ((Bytes × Bytes) × Value) => (ys.map (·.1)).Perm f) fun ys => [rMapB Tryz.prog 9 bm (ys.map fun y => (sv y.1.1, y.2)), rBig fileLoc ys]

def actRow (a : Deed) (bv : Value) : List Value := [.int .i64 a.kind, sv a.name, .int .i64 a.at_, bv]
theorem bytesLoc : Loc (fun (y : Value × Bytes) w F => (rBytes y.1 y.2).holds w F) := ⟨fun {y _ _ _} h hk => (rBytes y.1 y.2).keep h hk, fun {y _ _} h => (rBytes y.1 y.2).lt h⟩
def rActs (v : Value) (l : List Deed) : Res :=
  rSome (fun bvs : List Value => bvs.length = l.length) fun bvs => [rRows 4 185 v (List.zipWith actRow l bvs), rBig bytesLoc (bvs.zip (l.map (·.b)))]
def rHeld (bm : Nat) (h : Dict Nat) : Res := rMapB Tryz.prog 9 bm (h.map fun x => (sv x.1, .int .i64 x.2))

structure DiskIn where
  bs : Nat
  bl : Nat
  bh : Nat
  vp : Value
def diskCells (d : Dk) (i : DiskIn) : Array Value := #[.int .i64 d.room, .map (some i.bs), .map (some i.bl), i.vp, .map (some i.bh)]
def diskRes (p : Nat) (d : Dk) (i : DiskIn) : List Res := [rBlk p 81 (diskCells d i), rFiles i.bs d.seen, rFiles i.bl d.lasting, rActs i.vp d.pending, rHeld i.bh d.held]
def rDisk (p : Nat) (d : Dk) : Res := rSome (fun _ : DiskIn => True) (diskRes p d)

/-! ### may -/
set_option maxRecDepth 100000 in
set_option maxHeartbeats 2000000 in
theorem may_any (w : World) (l : Bytes) (hl : l.length ≤ 9223372036854775807) : Calls Tryz.prog 171 #[sv l] w fun e w' => e = .returned (.bool (may l)) ∧ Mod (fun _ => False) w w' := by
  unfold sv
  go_enter Tryz.func171, Tryz.ntmps171
  go_wp2_with fail
  go_loopw [7] (fun i wr => ∃ k : Nat, k ≤ l.length ∧ i = .int .i64 k ∧ (l.take k).all okByte = true ∧ Mod (fun _ => False) w wr) (fun i _ => l.length - (intOf i).toNat)
  case atStart => exact ⟨0, Nat.zero_le _, rfl, rfl, Mod.refl _ _⟩
  case round =>
    obtain ⟨k, hk, rfl, hall, hm⟩ := hrel
    have HA := hid (And.intro hall hm)
    clear hall hm
    by_cases hlt : k < l.length
    · have hx : (ByteArray.mk l.toArray)[k]'(by show k < l.toArray.size; simpa using hlt) = l[k] := rfl
      go_wp2_with fail
      all_goals simp only [hx] at *
      all_goals try simp only [bne_iff_ne, ne_eq, bne_eq_false_iff_eq] at *
      all_goals first
        | (refine ⟨⟨k + 1, by omega, by simp, ?_, HA.out.2⟩, ?_⟩
           · rw [List.take_succ_eq_append_getElem hlt, List.all_append, HA.out.1]
             have hk : okByte l[k] = true := by unfold okByte; simp only [Bool.or_eq_true, decide_eq_true_eq]; omega
             simp [hk]
           · show l.length - ((k : Int) + 1).toNat < l.length - (k : Int).toNat
             omega)
        | (have hk : okByte l[k] = false := by unfold okByte; simp only [Bool.or_eq_false_iff, decide_eq_false_iff_not]; omega
           have hm : may l = false := by
             unfold may
             have : l.all okByte = false := by rw [List.all_eq_false]; exact ⟨l[k], List.getElem_mem _, by simp [hk]⟩
             simp [this]
           go_ret
           rw [hm]
           exact ⟨rfl, HA.out.2⟩)
    · have hall : l.all okByte = true := by have := HA.out.1; rwa [List.take_of_length_le (by omega)] at this
      go_wp2_with fail
      all_goals
        have hm : may l = (decide (1 ≤ l.length) && decide (l.length ≤ 24)) := by unfold may; rw [hall]; rfl
        go_ret
        rw [hm]
        refine ⟨?_, HA.out.2⟩
      all_goals first
        | (show Ending.returned (.bool (decide ((l.length : Int) ≤ 24))) = _
           congr 2
           rw [Bool.eq_iff_iff]
           simp only [Bool.and_eq_true, decide_eq_true_eq]
           omega)
        | (show Ending.returned (.bool false) = _
           congr 2
           symm
           rw [Bool.and_eq_false_iff]
           left
           rw [decide_eq_false_iff_not]
           omega)
end Go.Proofs.YtdbhccehbjhbpaaGreatDoor

/- disk: files among held things: look-up, one file in focus, a file more, a file less. -/
namespace Go.Proofs.YtdbhccehbjhbpaaGreatDoor
open Go.RowKit
open Go.ChangeMaps (setBlock)
open Go.Maps (Keyed)
open Disk

section
variable {w0 w : World} {A B : List Res} {bm : Nat} {f : Files} {ys : List ((Bytes × Bytes) × Value)}

def filesL (ys : List ((Bytes × Bytes) × Value)) : List (Value × Value) := ys.map fun y => (sv y.1.1, y.2)

theorem Held.files_open (h : Held w0 w (A ++ rFiles bm f :: B)) : ∃ ys, (ys.map (·.1)).Perm f ∧ Held w0 w (A ++ rMapB Tryz.prog 9 bm (filesL ys) :: rBig fileLoc ys :: B) := h.open_some
theorem Held.files_close (hp : (ys.map (·.1)).Perm f) (h : Held w0 w (A ++ rMapB Tryz.prog 9 bm (filesL ys) :: rBig fileLoc ys :: B)) : Held w0 w (A ++ rFiles bm f :: B) := Held.close_some ys hp h

theorem Held.files_ok (h : Held w0 w (A ++ rFiles bm f :: B)) : Dict.Ok f := by
  obtain ⟨ys, hp, h⟩ := h.files_open
  have hn := h.mapAt.nodup
  unfold filesL at hn
  rw [List.map_map] at hn
  refine Dict.Ok.perm (f := ys.map (·.1)) ?_ hp
  unfold Dict.Ok
  rw [List.map_map]
  exact (List.pairwise_map.1 (by rw [List.map_map]; exact hn : ((ys.map ((·.1) ∘ (·.1))).map sv).Nodup)).imp fun hne e => hne (congrArg sv e)
theorem Held.files_perm {g : Files} (h : Held w0 w (A ++ rFiles bm f :: B)) (hp : f.Perm g) : Held w0 w (A ++ rFiles bm g :: B) := by
  obtain ⟨ys, hq, h⟩ := h.files_open
  exact Held.files_close (hq.trans hp) h

/-- no file of that name. -/
theorem Held.files_none (h : Held w0 w (A ++ rMapB Tryz.prog 9 bm (filesL ys) :: B)) (hp : (ys.map (·.1)).Perm f) {n : Bytes} (hn : n.length ≤ 9223372036854775807) (hg : Dict.get f n = none) :
    (∀ ok, (Instr.lookup 77 (.map (some bm)) (sv n) ok).run Tryz.prog w = .ok (if ok then .tuple #[.pointer none, .bool false] else .pointer none) w) ∧ ∀ p ∈ filesL ys, p.1 ≠ sv n := by
  have hno : ∀ p ∈ filesL ys, p.1 ≠ sv n := by
    intro p hp' e
    obtain ⟨y, hy, rfl⟩ := List.mem_map.1 hp'
    exact get_none hg y.1 (hp.mem_iff.1 (List.mem_map.2 ⟨y, hy, rfl⟩)) (sv_inj e)
  exact ⟨fun ok => h.mapAt.lookup_miss strKeyed Tryz.underlying77 (zeroFilePtr w) (svKey n hn) hno ok, hno⟩

/-- a file of that name: it is the one in focus. -/
theorem Held.files_some (h : Held w0 w (A ++ rMapB Tryz.prog 9 bm (filesL ys) :: rBig fileLoc ys :: B)) (hp : (ys.map (·.1)).Perm f) {n x : Bytes} (hn : n.length ≤ 9223372036854775807) (hg : Dict.get f n = some x) :
    ∃ ys1 ys2 b s, ys = ys1 ++ ((n, x), .pointer (some ⟨b, 0, none⟩)) :: ys2 ∧ (∀ ok, (Instr.lookup 77 (.map (some bm)) (sv n) ok).run Tryz.prog w = .ok (if ok then .tuple #[.pointer (some ⟨b, 0, none⟩), .bool true] else .pointer (some ⟨b, 0, none⟩)) w) ∧
      Held w0 w (A ++ rMapB Tryz.prog 9 bm (filesL ys) :: rBig fileLoc ys1 :: rBlk b 190 #[s] :: rBytes s x :: rBig fileLoc ys2 :: B) := by
  have hm : (n, x) ∈ ys.map (·.1) := hp.mem_iff.2 (get_mem hg)
  obtain ⟨y, hy, hyx⟩ := List.mem_map.1 hm
  obtain ⟨ys1, ys2, rfl⟩ := List.append_of_mem hy
  obtain ⟨p, v⟩ := y
  simp only at hyx
  subst hyx
  have hlk := fun ok => h.mapAt.lookup_hit (v := v) strKeyed Tryz.underlying77 (svKey n hn) (by unfold filesL; exact List.mem_map.2 ⟨((n, x), v), by simp, rfl⟩) ok
  have h1 := Held.big_split (l1 := A ++ [rMapB Tryz.prog 9 bm (filesL (ys1 ++ ((n, x), v) :: ys2))]) fileLoc (by simpa using h)
  have h2 := Held.big_uncons (l1 := A ++ [rMapB Tryz.prog 9 bm (filesL (ys1 ++ ((n, x), v) :: ys2)), rBig fileLoc ys1]) fileLoc (by simpa using h1)
  obtain ⟨⟨b, s⟩, hv, h3⟩ := Held.open_some (l1 := A ++ [rMapB Tryz.prog 9 bm (filesL (ys1 ++ ((n, x), v) :: ys2)), rBig fileLoc ys1]) (Rs' := fun a : Nat × Value => [rBlk a.1 190 #[a.2], rBytes a.2 x]) (q := fun a => v = .pointer (some ⟨a.1, 0, none⟩)) h2
  simp only at hv
  subst hv
  exact ⟨ys1, ys2, b, s, rfl, hlk, by simpa using h3⟩

/-- the one in focus goes back, with other bytes. -/
theorem Held.files_back {ys1 ys2 : List ((Bytes × Bytes) × Value)} {n x y : Bytes} {b : Nat} {s : Value} (hp : ((ys1 ++ ((n, x), .pointer (some ⟨b, 0, none⟩)) :: ys2).map (·.1)).Perm f)
    (h : Held w0 w (A ++ rMapB Tryz.prog 9 bm (filesL (ys1 ++ ((n, x), .pointer (some ⟨b, 0, none⟩)) :: ys2)) :: rBig fileLoc ys1 :: rBlk b 190 #[s] :: rBytes s y :: rBig fileLoc ys2 :: B)) (hf : Dict.Ok f) :
    Held w0 w (A ++ rFiles bm (Dict.put f n y) :: B) := by
  have h1 := Held.close_some (l1 := A ++ [rMapB Tryz.prog 9 bm (filesL (ys1 ++ ((n, x), .pointer (some ⟨b, 0, none⟩)) :: ys2)), rBig fileLoc ys1]) (l2 := rBig fileLoc ys2 :: B) (Rs' := fun a : Nat × Value => [rBlk a.1 190 #[a.2], rBytes a.2 y]) (q := fun a : Nat × Value => Value.pointer (some ⟨b, 0, none⟩) = .pointer (some ⟨a.1, 0, none⟩)) (b, s) rfl (by simpa using h)
  have h2 := Held.big_cons (l1 := A ++ [rMapB Tryz.prog 9 bm (filesL (ys1 ++ ((n, x), .pointer (some ⟨b, 0, none⟩)) :: ys2)), rBig fileLoc ys1]) fileLoc (x := ((n, y), .pointer (some ⟨b, 0, none⟩))) h1
  have h3 := Held.big_join (l1 := A ++ [rMapB Tryz.prog 9 bm (filesL (ys1 ++ ((n, x), .pointer (some ⟨b, 0, none⟩)) :: ys2))]) fileLoc (by simpa using h2)
  refine Held.files_close (ys := ys1 ++ ((n, y), .pointer (some ⟨b, 0, none⟩)) :: ys2) ?_ ?_
  · rw [List.map_append, List.map_cons] at hp ⊢
    exact put_split hp hf y
  · have : filesL (ys1 ++ ((n, x), .pointer (some ⟨b, 0, none⟩)) :: ys2) = filesL (ys1 ++ ((n, y), .pointer (some ⟨b, 0, none⟩)) :: ys2) := by simp [filesL]
    rw [this] at h3
    simpa using h3
end
end Go.Proofs.YtdbhccehbjhbpaaGreatDoor

/- disk: the contract of files.does. -/
namespace Go.Proofs.YtdbhccehbjhbpaaGreatDoor
open Go.RowKit
open Disk

set_option maxRecDepth 100000 in
set_option maxHeartbeats 4000000 in
theorem fdoes_drop {w0 w : World} {A B : List Res} {bm : Nat} {f : Files} (h : Held w0 w (A ++ rFiles bm f :: B)) (name : Bytes) (at_ : Int) (u : Value) (hn : name.length ≤ 9223372036854775807) :
    Calls Tryz.prog 172 #[.map (some bm), .agg #[.int .i64 2, sv name, .int .i64 at_, u]] w fun e w' => e = .returned (.tuple #[]) ∧ Held w0 w' (A ++ rFiles bm (Dict.del f name) :: B) := by
  have hok := h.files_ok
  have h0 := (h.block 185 #[.int .i64 2, sv name, .int .i64 at_, u])
  obtain ⟨ys, hp, h1⟩ := Held.files_open (A := rBlk w.heap.size 185 #[.int .i64 2, sv name, .int .i64 at_, u] :: A) h0
  cases hg : Dict.get f name with
  | none =>
    obtain ⟨hlk, hno⟩ := h1.files_none hp hn hg
    have hlk' : _ := hlk false
    have HD := hid (Held.map_nodel strKeyed Tryz.underlying77 h1 (svKey name hn) hno 9)
    have HG := hid (And.intro hp hg)
    clear h h0 h1 hlk hno hp hg
    go_enter Tryz.func172, Tryz.ntmps172
    go_wp2_with (first
      | (at_delete; refine wpList_delete_ex _ rfl _ _ 77 9 rfl _ _ rfl rfl _ HD.out ?c2))
    case c2 =>
      intro w' hPost
      have HQ := hid hPost
      clear hPost
      go_wp2
      refine bodyPost_ret (results_none rfl _ _ _) rfl ?_
      refine ⟨rfl, ?_⟩
      rw [del_none HG.out.2]
      exact Held.files_close HG.out.1 (Held.drop (l1 := []) HQ.out)
  | some x =>
    obtain ⟨ys1, ys2, b, s, rfl, hlk, h2⟩ := h1.files_some hp hn hg
    have hlk' : _ := hlk false
    have hpm : (filesL (ys1 ++ ((name, x), .pointer (some ⟨b, 0, none⟩)) :: ys2)).Perm ((sv name, .pointer (some ⟨b, 0, none⟩)) :: filesL (ys1 ++ ys2)) := by
      unfold filesL
      rw [List.map_append, List.map_cons, List.map_append]
      exact List.perm_middle
    have HD := hid (Held.map_del strKeyed Tryz.underlying77 h2 (svKey name hn) hpm 9)
    have HG := hid (And.intro hp hok)
    clear h h0 h1 h2 hlk hp hok hg hpm
    go_enter Tryz.func172, Tryz.ntmps172
    go_wp2_with (first
      | (at_delete; refine wpList_delete_ex _ rfl _ _ 77 9 rfl _ _ rfl rfl _ HD.out ?c2))
    case c2 =>
      intro w' hPost
      have HQ := hid hPost
      clear hPost
      go_wp2
      refine bodyPost_ret (results_none rfl _ _ _) rfl ?_
      refine ⟨rfl, ?_⟩
      have g1 := Held.drop (l1 := []) HQ.out
      have g2 := Held.drop (l1 := A ++ [rMapB Tryz.prog 9 bm (filesL (ys1 ++ ys2)), rBig fileLoc ys1]) (R := rBlk b 190 #[s]) (by simpa using g1)
      have g3 := Held.drop (l1 := A ++ [rMapB Tryz.prog 9 bm (filesL (ys1 ++ ys2)), rBig fileLoc ys1]) (R := rBytes s x) (by simpa using g2)
      have g4 := Held.big_join (l1 := A ++ [rMapB Tryz.prog 9 bm (filesL (ys1 ++ ys2))]) fileLoc (by simpa using g3)
      refine Held.files_close (ys := ys1 ++ ys2) ?_ (by simpa using g4)
      have hp := HG.out.1
      rw [List.map_append, List.map_cons] at hp
      rw [List.map_append]
      exact del_split hp HG.out.2

set_option maxRecDepth 100000 in
set_option maxHeartbeats 4000000 in
theorem fdoes_cut {w0 w : World} {A B : List Res} {bm : Nat} {f : Files} (h : Held w0 w (A ++ rFiles bm f :: B)) (name : Bytes) (k : Nat) (u : Value) (hn : name.length ≤ 9223372036854775807) (hk : k ≤ 1073741824) :
    Calls Tryz.prog 172 #[.map (some bm), .agg #[.int .i64 1, sv name, .int .i64 k, u]] w fun e w' => e = .returned (.tuple #[]) ∧
      Held w0 w' (A ++ rFiles bm (match Dict.get f name with | none => f | some x => Dict.put f name (x.take k)) :: B) := by
  have hok := h.files_ok
  have h0 := (h.block 185 #[.int .i64 1, sv name, .int .i64 k, u])
  obtain ⟨ys, hp, h1⟩ := Held.files_open (A := rBlk w.heap.size 185 #[.int .i64 1, sv name, .int .i64 k, u] :: A) h0
  cases hg : Dict.get f name with
  | none =>
    obtain ⟨hlk, hno⟩ := h1.files_none hp hn hg
    have hlk' : _ := hlk false
    have HG := hid (And.intro hp h1)
    clear h h0 h1 hlk hno hp hg
    go_enter Tryz.func172, Tryz.ntmps172
    go_wp2_with fail
    refine bodyPost_ret (results_none rfl _ _ _) rfl ?_
    exact ⟨rfl, Held.files_close HG.out.1 (Held.drop (l1 := []) HG.out.2)⟩
  | some x =>
    obtain ⟨ys1, ys2, b, s, rfl, hlk, h2⟩ := h1.files_some hp hn hg
    have hlk' : _ := hlk false
    have hb := Held.blk (l1 := rBlk w.heap.size 185 #[.int .i64 1, sv name, .int .i64 k, u] :: (A ++ [rMapB Tryz.prog 9 bm (filesL (ys1 ++ ((name, x), .pointer (some ⟨b, 0, none⟩)) :: ys2)), rBig fileLoc ys1])) (by simpa using h2)
    obtain ⟨sA, sc, rfl, q1, q2⟩ := Held.form (l1 := rBlk w.heap.size 185 #[.int .i64 1, sv name, .int .i64 k, u] :: (A ++ [rMapB Tryz.prog 9 bm (filesL (ys1 ++ ((name, x), .pointer (some ⟨b, 0, none⟩)) :: ys2)), rBig fileLoc ys1, rBlk b 190 #[s]])) (by simpa using h2)
    have hc := hb.cell (i := 0) rfl
    have hfz := hb.frozen 0
    have HG := hid (And.intro hp (And.intro hok h2))
    clear h h0 h1 h2 hlk hp hok hg hb
    go_enter Tryz.func172, Tryz.ntmps172
    go_wp2_with fail
    go_region
    go_wp2
    all_goals
      refine bodyPost_ret (results_none rfl _ _ _) rfl ?_
      refine ⟨rfl, ?_⟩
      obtain ⟨hp, hok, h2⟩ := HG.out
      have g1 := Held.store (l1 := A ++ [rMapB Tryz.prog 9 bm (filesL (ys1 ++ ((name, x), .pointer (some ⟨b, 0, none⟩)) :: ys2)), rBig fileLoc ys1]) (by simpa using Held.drop (l1 := []) h2) 0
    · rw [List.take_of_length_le (by omega)]
      exact (Held.files_back hp (by simpa using g1 (.slice sA x.length sc)) hok).step ((Mod.refl _ _).drew)
    · have g2 := Held.bytes_take (l1 := A ++ [rMapB Tryz.prog 9 bm (filesL (ys1 ++ ((name, x), .pointer (some ⟨b, 0, none⟩)) :: ys2)), rBig fileLoc ys1, rBlk b 190 #[.slice sA k sc]]) (by simpa using g1 (.slice sA k sc)) (k := k) (by omega)
      exact (Held.files_back hp (by simpa using g2) hok).step ((Mod.refl _ _).drew)
end Go.Proofs.YtdbhccehbjhbpaaGreatDoor

/- disk: files.does at a write. -/
namespace Go.Proofs.YtdbhccehbjhbpaaGreatDoor
open Go.RowKit
open Disk

theorem own_addr {w0 w : World} {l2 : List Res} {e : TypeId} {A : Option Addr} {n c : Nat} {xs : List Value} (h : Held w0 w (rOwn e (.slice A n c) xs :: l2)) : n ≤ c ∧ (A = none ∧ c = 0 ∧ n = 0 ∨ ∃ g, A = some ⟨g, 0, none⟩) := by
  obtain ⟨F, hF⟩ := Held.get (l1 := []) h
  obtain ⟨⟨-, hr⟩, -⟩ : Own e 1 (.slice A n c) xs.length xs w F := hF
  rcases hr with ⟨e, hz⟩ | ⟨g, cap, cur, e, -, -, r1, -, -, -⟩
  · injection e with e1 e2 e3
    exact ⟨by omega, .inl ⟨e1, e3, e2⟩⟩
  · injection e with e1 e2 e3
    subst e2 e3
    exact ⟨r1, .inr ⟨g, e1⟩⟩

theorem src_cells {w : World} {bA : Option Addr} {n c : Nat} {xs : List Value} (h : Rd (fun _ => True) w (.slice bA n c) xs) : 0 < xs.length → ∃ ad, bA = some ad ∧ ∀ j u, xs[j]? = some u → w.cell? (ad.add j) = some u := by
  intro h0
  obtain ⟨A, c', e, _, _, hA⟩ := h
  injection e with e1 _ _
  subst e1
  obtain ⟨b, off, rfl, _, hcell⟩ := hA (by intro e; rw [e] at h0; simp at h0)
  refine ⟨_, rfl, fun j u hu => ?_⟩
  have : (⟨b, off, none⟩ : Addr).add j = ⟨b, off + j, none⟩ := by unfold Addr.add; split <;> simp_all
  rw [this]
  exact hcell j u hu

theorem splice_overlay (x bs : Bytes) (k m : Nat) (hm : m = k + bs.length - x.length) : splice (bytesV x ++ List.replicate m (.int .u8 0)) k (bytesV bs) = bytesV (overlay x k bs) := by
  have hz : List.replicate m (Value.int .u8 0) = bytesV (List.replicate m 0) := by simp [bytesV]
  unfold splice overlay
  rw [hz, ← hm, bytesV_length, ← bytesV_append, ← bytesV_take, ← bytesV_drop, ← bytesV_append, ← bytesV_append, List.append_assoc]

theorem write_end {w0 w : World} {A B : List Res} {bm pb b : Nat} {t : TypeId} {cs : Array Value} {f : Files} {ys1 ys2 : List ((Bytes × Bytes) × Value)} {name x y : Bytes} {s v : Value} (hp : ((ys1 ++ ((name, x), .pointer (some ⟨b, 0, none⟩)) :: ys2).map (·.1)).Perm f) (hok : Dict.Ok f)
    (h : Held w0 w (rBytes v y :: rBlk pb t cs :: (A ++ rMapB Tryz.prog 9 bm (filesL (ys1 ++ ((name, x), .pointer (some ⟨b, 0, none⟩)) :: ys2)) :: rBig fileLoc ys1 :: rBlk b 190 #[s] :: rBytes s x :: rBig fileLoc ys2 :: B))) :
    Held w0 (w.setCell ⟨b, 0, none⟩ v) (A ++ rFiles bm (Dict.put f name y) :: B) := by
  have h1 := Held.drop (l1 := [rBytes v y]) h
  have h2 := Held.store (l1 := rBytes v y :: (A ++ [rMapB Tryz.prog 9 bm (filesL (ys1 ++ ((name, x), .pointer (some ⟨b, 0, none⟩)) :: ys2)), rBig fileLoc ys1])) (by simpa using h1) 0 v
  have h3 := Held.drop (l1 := rBytes v y :: (A ++ [rMapB Tryz.prog 9 bm (filesL (ys1 ++ ((name, x), .pointer (some ⟨b, 0, none⟩)) :: ys2)), rBig fileLoc ys1, rBlk b 190 #[v]])) (R := rBytes s x) (by simpa using h2)
  have h4 := Held.perm h3 (Rs' := (A ++ [rMapB Tryz.prog 9 bm (filesL (ys1 ++ ((name, x), .pointer (some ⟨b, 0, none⟩)) :: ys2)), rBig fileLoc ys1, rBlk b 190 #[v]]) ++ rBytes v y :: rBig fileLoc ys2 :: B) (by simpa using (List.perm_middle (a := rBytes v y) (l₁ := A ++ [rMapB Tryz.prog 9 bm (filesL (ys1 ++ ((name, x), .pointer (some ⟨b, 0, none⟩)) :: ys2)), rBig fileLoc ys1, rBlk b 190 #[v]]) (l₂ := rBig fileLoc ys2 :: B)).symm)
  exact Held.files_back hp (by simpa using h4) hok

theorem perm_new {α : Type} (b g n p m y : α) (A B : List α) : (b :: g :: n :: p :: (A ++ m :: y :: B)).Perm (p :: (A ++ m :: g :: n :: b :: y :: B)) := by
  have h : ([b, g, n] ++ (p :: (A ++ [m])) ++ (y :: B)).Perm ((p :: (A ++ [m])) ++ [g, n, b] ++ (y :: B)) := by
    refine List.Perm.append_right _ (List.perm_append_comm.trans (List.Perm.append_left _ ?_))
    exact List.perm_append_comm (l₁ := [b]) (l₂ := [g, n])
  simpa using h

/-- a new file, with nothing in it yet. -/
theorem write_new {w0 w : World} {A B : List Res} {bm pb nb : Nat} {t : TypeId} {cs : Array Value} {ys ys1 ys2 : List ((Bytes × Bytes) × Value)} {name x : Bytes}
    (h : Held w0 w ((rBlk nb 190 #[.slice none 0 0] :: rBlk pb t cs :: A) ++ rMapB Tryz.prog 9 bm ((sv name, .pointer (some ⟨nb, 0, none⟩)) :: filesL ys) :: rBig fileLoc ys :: B)) (hy1 : ys1 = []) (hx : x = []) (hy2 : ys2 = ys) :
    Held w0 w (rBlk pb t cs :: (A ++ rMapB Tryz.prog 9 bm (filesL (ys1 ++ ((name, x), .pointer (some ⟨nb, 0, none⟩)) :: ys2)) :: rBig fileLoc ys1 :: rBlk nb 190 #[.slice none x.length 0] :: rBytes (.slice none x.length 0) x :: rBig fileLoc ys2 :: B)) := by
  subst hy1 hx hy2
  have h1 := Held.nil_own (Held.big_nil fileLoc h) 5
  exact h1.perm (perm_new _ _ _ _ _ _ _ _)

theorem put_begin {f : Files} {ys ys1 ys2 : List ((Bytes × Bytes) × Value)} {name x : Bytes} (hp : (ys.map (·.1)).Perm f) (hok : Dict.Ok f) (hg : Dict.get f name = none) (b : Nat) (hy1 : ys1 = []) (hx : x = []) (hy2 : ys2 = ys) (o : Bytes → Bytes) :
    ((ys1 ++ ((name, x), Value.pointer (some ⟨b, 0, none⟩)) :: ys2).map (·.1)).Perm ((name, x) :: f) ∧ Dict.Ok ((name, x) :: f) ∧ Dict.put ((name, x) :: f) name (o x) = Dict.put f name (o ((none : Option Bytes).getD [])) := by
  subst hy1 hx hy2
  refine ⟨?_, ?_, ?_⟩
  · simpa using hp.cons (name, ([] : Bytes))
  · unfold Dict.Ok
    rw [List.map_cons, List.nodup_cons]
    refine ⟨fun h => ?_, hok⟩
    obtain ⟨p, hp, e⟩ := List.mem_map.1 h
    exact get_none hg p hp e
  · unfold Dict.put Dict.del
    rw [List.filter_cons]
    simp

theorem blk_of_held {w0 w : World} {R1 R2 : Res} {A B : List Res} {R3 R4 : Res} {b : Nat} {t : TypeId} {cs : Array Value} (h : Held w0 w (R1 :: R2 :: (A ++ R3 :: R4 :: rBlk b t cs :: B))) : Blk w b t cs ∧ w.frozen? ⟨b, 0, none⟩ = false := by
  have h1 := Held.blk (l1 := R1 :: R2 :: (A ++ [R3, R4])) (by simpa using h)
  exact ⟨h1, h1.frozen 0⟩

/-- a slice that reads so as long as these things are held. -/
def Src (w0 : World) (A B : List Res) (v : Value) (xs : List Value) : Prop := ∀ w' M, Held w0 w' (A ++ (M ++ B)) → Rd (fun _ => True) w' v xs

set_option maxRecDepth 100000 in
set_option maxHeartbeats 4000000 in
theorem fdoes_write {w0 w : World} {A B : List Res} {bm : Nat} {f : Files} (h : Held w0 w (A ++ rFiles bm f :: B)) (name : Bytes) (k : Nat) (bs : Bytes) (bA : Option Addr) (bc : Nat)
    (hb : Src w0 A B (.slice bA bs.length bc) (bytesV bs))
    (hn : name.length ≤ 9223372036854775807) (hk : k + bs.length ≤ 1073741824) (hfs : ∀ x, Dict.get f name = some x → x.length ≤ 1073741824) :
    Calls Tryz.prog 172 #[.map (some bm), .agg #[.int .i64 0, sv name, .int .i64 k, .slice bA bs.length bc]] w fun e w' => e = .returned (.tuple #[]) ∧
      Held w0 w' (A ++ rFiles bm (Dict.put f name (overlay ((Dict.get f name).getD []) k bs)) :: B) := by
  have hok := h.files_ok
  have h0 := (h.block 185 #[.int .i64 0, sv name, .int .i64 k, .slice bA bs.length bc])
  obtain ⟨ys, hp, h1⟩ := Held.files_open (A := rBlk w.heap.size 185 #[.int .i64 0, sv name, .int .i64 k, .slice bA bs.length bc] :: A) h0
  obtain ⟨i0, hi, hz0, hz1, hz2⟩ := info_parts Tryz.info5
  have HI := hid (And.intro hi (And.intro hz0 (And.intro hz1 hz2)))
  have HS := hid hb
  clear hi hz0 hz1 hz2 hb
  cases hg : Dict.get f name with
  | none =>
    obtain ⟨hlk, hno⟩ := h1.files_none hp hn hg
    have hlk' : _ := hlk false
    have h0b := h1.block 190 #[.slice none 0 0]
    rw [World.size_alloc] at h0b
    have HU := hid (Held.map_new (A := rBlk (w.heap.size + 1) 190 #[.slice none 0 0] :: rBlk w.heap.size 185 #[.int .i64 0, sv name, .int .i64 k, .slice bA bs.length bc] :: A) strKeyed Tryz.underlying77 h0b (svKey name hn) hno (.pointer (some ⟨w.heap.size + 1, 0, none⟩)))
    have HG0 := hid (And.intro hp (And.intro hok hg))
    clear hlk h h0 h1 hp hok hg hfs hno h0b
    go_enter Tryz.func172, Tryz.ntmps172
    go_wp2_with (first
      | (at_mapUpdate; refine wpList_mapUpdate_ex _ rfl _ _ _ 77 rfl _ _ _ rfl rfl rfl _ HU.out ?c2))
    case c2 =>
    intro wq hPost
    obtain ⟨ys1, hy1⟩ : ∃ l : List ((Bytes × Bytes) × Value), l = [] := ⟨_, rfl⟩
    obtain ⟨x, hx0⟩ : ∃ l : Bytes, l = [] := ⟨_, rfl⟩
    obtain ⟨ys2, hy2⟩ : ∃ l, l = ys := ⟨_, rfl⟩
    have hx : x.length ≤ 1073741824 := by rw [hx0]; simp
    have h2 := write_new hPost hy1 hx0 hy2
    obtain ⟨sA, sc, hs, q1, q2⟩ : ∃ sA sc, Value.slice none x.length 0 = .slice sA x.length sc ∧ x.length ≤ sc ∧ sc ≤ 9223372036854775807 := ⟨none, 0, rfl, by rw [hx0]; simp, by omega⟩
    rw [hs] at h2
    clear hs
    clear hPost HU
    generalize w.heap.size + 1 = b at *
    have HG := hid (put_begin HG0.out.1 HG0.out.2.1 HG0.out.2.2 b hy1 hx0 hy2 (fun y => overlay y k bs))
    clear hy1 hx0 hy2 HG0
    have hpre : ∀ (w' : World) (R : List Res) (q : Value), Held w0 w' (R ++ (rBlk w.heap.size 185 #[.int .i64 0, sv name, .int .i64 k, .slice bA bs.length bc] :: (A ++ rMapB Tryz.prog 9 bm (filesL (ys1 ++ ((name, x), .pointer (some ⟨b, 0, none⟩)) :: ys2)) :: rBig fileLoc ys1 :: rBlk b 190 #[q] :: rBytes (.slice sA x.length sc) x :: rBig fileLoc ys2 :: B))) →
        w'.cell? ⟨w.heap.size, 2, none⟩ = some (.int .i64 k) ∧ w'.cell? ⟨w.heap.size, 3, none⟩ = some (.slice bA bs.length bc) ∧ w'.cell? ⟨b, 0, none⟩ = some q := by
      intro w' R q h
      have b1 := Held.blk h
      have b2 := Held.blk (l1 := R ++ (rBlk w.heap.size 185 #[.int .i64 0, sv name, .int .i64 k, .slice bA bs.length bc] :: (A ++ [rMapB Tryz.prog 9 bm (filesL (ys1 ++ ((name, x), .pointer (some ⟨b, 0, none⟩)) :: ys2)), rBig fileLoc ys1]))) (by simpa using h)
      exact ⟨b1.cell rfl, b1.cell rfl, b2.cell rfl⟩
    obtain ⟨c1, c2, c3⟩ := hpre _ [] _ h2
    have HP := hid hpre
    have HX := hid (Held.bytes (l1 := rBlk w.heap.size 185 #[.int .i64 0, sv name, .int .i64 k, .slice bA bs.length bc] :: (A ++ [rMapB Tryz.prog 9 bm (filesL (ys1 ++ ((name, x), .pointer (some ⟨b, 0, none⟩)) :: ys2)), rBig fileLoc ys1, rBlk b 190 #[.slice sA x.length sc]])) (by simpa using h2))
    have HH := hid h2
    obtain ⟨m, hm⟩ : ∃ m : Nat, m = k + bs.length - x.length := ⟨_, rfl⟩
    have hw1 : IntKind.i64.wrap ((k : Int) + bs.length) = (k : Int) + bs.length := by rw [IntKind.wrap_i64]; omega
    have hw2 : IntKind.i64.wrap ((k : Int) + bs.length - x.length) = (k : Int) + bs.length - x.length := by rw [IntKind.wrap_i64]; omega
    have HV := hid (show (if 0 < IntKind.i64.wrap (IntKind.i64.wrap ((k : Int) + bs.length) - x.length) then IntKind.i64.wrap (IntKind.i64.wrap ((k : Int) + bs.length) - x.length) else 0) = (m : Int) by
      rw [hw1, hw2]
      split <;> omega)
    have HM := hid hm
    clear hpre h2 hm hw1 hw2
    go_wp2_with fail
    go_region_held3 (fun w' => w'.cell? ⟨w.heap.size, 2, none⟩ = some (.int .i64 k) ∧ w'.cell? ⟨w.heap.size, 3, none⟩ = some (.slice bA bs.length bc) ∧ w'.cell? ⟨b, 0, none⟩ = some (.slice sA x.length sc))
      (first | exact ⟨c1, c2, c3⟩ | exact ⟨d1, d2, d3⟩ | exact ⟨d4, d5, d6⟩)
      (first
        | (go_at_call 103; refine (clone_held (HH.out.step ((Mod.refl _ _).drew)) (fun _ => True) _ x HX.out (by omega)).mono ?_; rintro e w1 ⟨v1, rfl, g1⟩; obtain ⟨d1, d2, d3⟩ := HP.out _ [rBytes v1 x] _ g1; have G1 := hid g1; clear g1)
        | (refine step_max rfl _ _ 3 rfl 0 _ m rfl rfl HV.out ?_)
        | (refine step_zeros_held _ [] _ rfl _ _ 87 3 rfl 5 i0 (.int .u8 0) .i64 .i64 1 Tryz.underlying87 Tryz.underlying3 HI.out.1 HI.out.2.1 HI.out.2.2.1 HI.out.2.2.2 rfl rfl _ (bytesV x) x.length (bytesV_length x) rfl G1.out m rfl (by have := HM.out; unfold maxLen; omega) (by have := HM.out; omega) ?_; intro vA vc w2 g2; obtain ⟨d4, d5, d6⟩ := HP.out _ [_] _ g2; have G2 := hid g2; clear g2))
    all_goals
      have HC := hid (src_cells (HS.out w2.drew [rMapB Tryz.prog 9 bm (filesL (ys1 ++ ((name, x), .pointer (some ⟨b, 0, none⟩)) :: ys2)), rBig fileLoc ys1, rBlk b 190 #[.slice sA x.length sc], rBytes (.slice sA x.length sc) x, rBig fileLoc ys2] (by
        have g := Held.drop (l1 := []) (Held.drop (l1 := []) (G2.out.step ((Mod.refl _ _).drew)))
        simpa using g)))
      have lk1 : (k : Int) ≤ ((x.length + m : Nat) : Int) := by have := HM.out; omega
      have lk2 : k ≤ x.length + m := by have := HM.out; omega
      have lk3 : (0 : Int) ≤ (k : Int) := by omega
      have lk4 : (k : Int) ≤ (x.length : Int) + (m : Int) := by omega
      obtain ⟨lv1, hvA⟩ := own_addr G2.out
      have lk5 : (x.length : Int) + (m : Int) ≤ (vc : Int) := by omega
      have lk6 : (k : Int) ≤ (vc : Int) := by omega
      rcases hvA with ⟨rfl, rfl, hz⟩ | ⟨g, rfl⟩
      · obtain ⟨k', hk'⟩ : ∃ k' : Nat, k' = k := ⟨_, rfl⟩
        have hk0 : k = 0 := by omega
        have HK := hid hk'
        subst hk0
        have lk7 : (0 : Int) ≤ (x.length : Int) + (m : Int) := by omega
        have lk8 : (x.length : Int) + (m : Int) ≤ 0 := by omega
        have lk9 : x.length + m ≤ 0 := by omega
        clear hk' hz
        go_wp2_with fail
        go_region_held3 (fun w' => w'.cell? ⟨w.heap.size, 2, none⟩ = some (.int .i64 (0 : Nat)) ∧ w'.cell? ⟨w.heap.size, 3, none⟩ = some (.slice bA bs.length bc) ∧ w'.cell? ⟨b, 0, none⟩ = some (.slice sA x.length sc))
            (first | exact ⟨d4, d5, d6⟩ | exact ⟨d7, d8, d9⟩)
            (first
              | (refine step_copy_held (l1 := []) rfl _ _ 87 87 rfl 5 Tryz.underlying87 (by kernel_rfl) _ _ (G2.out.step ((Mod.refl _ _).drew)) _ _ _ _ _ _ rfl rfl (0 : Nat) (bytesV bs) (by have := HM.out; rw [bytesV_length]; exact (Nat.min_eq_left (by omega)).symm) (fun h0 => by exfalso; have := HM.out; rw [bytesV_length] at h0; omega) (by have := HM.out; simp only [List.length_append, bytesV_length, List.length_replicate]; omega) (bytesV_one _) ?_; intro w3 g3; obtain ⟨d7, d8, d9⟩ := HP.out _ [_] _ g3; have G3 := hid g3; clear g3))
        all_goals
          obtain ⟨hb3, hf3⟩ := blk_of_held G3.out
          go_wp2_with fail
          go_end0
          refine ⟨rfl, ?_⟩
          rw [← HG.out.2.2]
          have g3 := G3.out
          rw [splice_overlay x bs 0 m HM.out] at g3
          exact write_end HG.out.1 HG.out.2.1 g3
      · by_cases hck : vc = k
        · subst hck
          go_wp2_with fail
          go_region_held3 (fun w' => w'.cell? ⟨w.heap.size, 2, none⟩ = some (.int .i64 vc) ∧ w'.cell? ⟨w.heap.size, 3, none⟩ = some (.slice bA bs.length bc) ∧ w'.cell? ⟨b, 0, none⟩ = some (.slice sA x.length sc))
            (first | exact ⟨d4, d5, d6⟩ | exact ⟨d7, d8, d9⟩)
            (first
              | (refine step_copy_held (l1 := []) rfl _ _ 87 87 rfl 5 Tryz.underlying87 (by kernel_rfl) _ _ (G2.out.step ((Mod.refl _ _).drew)) _ _ _ _ _ _ rfl rfl vc (bytesV bs) (by have := HM.out; rw [bytesV_length]; exact (Nat.min_eq_left (by omega)).symm) (fun h0 => by exfalso; have := HM.out; rw [bytesV_length] at h0; omega) (by have := HM.out; simp only [List.length_append, bytesV_length, List.length_replicate]; omega) (bytesV_one _) ?_; intro w3 g3; obtain ⟨d7, d8, d9⟩ := HP.out _ [_] _ g3; have G3 := hid g3; clear g3))
          all_goals
            obtain ⟨hb3, hf3⟩ := blk_of_held G3.out
            go_wp2_with fail
            go_end0
            refine ⟨rfl, ?_⟩
            rw [← HG.out.2.2]
            have g3 := G3.out
            rw [splice_overlay x bs vc m HM.out] at g3
            exact write_end HG.out.1 HG.out.2.1 g3
        · go_wp2_with fail
          go_region_held3 (fun w' => w'.cell? ⟨w.heap.size, 2, none⟩ = some (.int .i64 k) ∧ w'.cell? ⟨w.heap.size, 3, none⟩ = some (.slice bA bs.length bc) ∧ w'.cell? ⟨b, 0, none⟩ = some (.slice sA x.length sc))
            (first | exact ⟨d4, d5, d6⟩ | exact ⟨d7, d8, d9⟩)
            (first
              | (refine step_copy_held (l1 := []) rfl _ _ 87 87 rfl 5 Tryz.underlying87 (by kernel_rfl) _ _ (G2.out.step ((Mod.refl _ _).drew)) _ _ _ _ _ _ rfl rfl k (bytesV bs) (by have := HM.out; rw [bytesV_length]; exact (Nat.min_eq_left (by omega)).symm) (fun h0 => ⟨fun g' n' c' e => by cases e; first | rfl | (show some _ = some _; congr 1), HC.out h0⟩) (by have := HM.out; simp only [List.length_append, bytesV_length, List.length_replicate]; omega) (bytesV_one _) ?_; intro w3 g3; obtain ⟨d7, d8, d9⟩ := HP.out _ [_] _ g3; have G3 := hid g3; clear g3))
          all_goals
            obtain ⟨hb3, hf3⟩ := blk_of_held G3.out
            go_wp2_with fail
            go_end0
            refine ⟨rfl, ?_⟩
            rw [← HG.out.2.2]
            have g3 := G3.out
            rw [splice_overlay x bs k m HM.out] at g3
            exact write_end HG.out.1 HG.out.2.1 g3
  | some x =>
    have hx := hfs x hg
    obtain ⟨ys1, ys2, b, s, rfl, hlk, h2⟩ := h1.files_some hp hn hg
    have hlk' : _ := hlk false
    obtain ⟨sA, sc, rfl, q1, q2⟩ := Held.form (l1 := rBlk w.heap.size 185 #[.int .i64 0, sv name, .int .i64 k, .slice bA bs.length bc] :: (A ++ [rMapB Tryz.prog 9 bm (filesL (ys1 ++ ((name, x), .pointer (some ⟨b, 0, none⟩)) :: ys2)), rBig fileLoc ys1, rBlk b 190 #[s]])) (by simpa using h2)
    have HG := hid (And.intro hp (And.intro hok (show Dict.put f name (overlay x k bs) = Dict.put f name (overlay ((some x).getD []) k bs) from rfl)))
    clear hlk h h0 h1 hp hok hg hfs
    have hpre : ∀ (w' : World) (R : List Res) (q : Value), Held w0 w' (R ++ (rBlk w.heap.size 185 #[.int .i64 0, sv name, .int .i64 k, .slice bA bs.length bc] :: (A ++ rMapB Tryz.prog 9 bm (filesL (ys1 ++ ((name, x), .pointer (some ⟨b, 0, none⟩)) :: ys2)) :: rBig fileLoc ys1 :: rBlk b 190 #[q] :: rBytes (.slice sA x.length sc) x :: rBig fileLoc ys2 :: B))) →
        w'.cell? ⟨w.heap.size, 2, none⟩ = some (.int .i64 k) ∧ w'.cell? ⟨w.heap.size, 3, none⟩ = some (.slice bA bs.length bc) ∧ w'.cell? ⟨b, 0, none⟩ = some q := by
      intro w' R q h
      have b1 := Held.blk h
      have b2 := Held.blk (l1 := R ++ (rBlk w.heap.size 185 #[.int .i64 0, sv name, .int .i64 k, .slice bA bs.length bc] :: (A ++ [rMapB Tryz.prog 9 bm (filesL (ys1 ++ ((name, x), .pointer (some ⟨b, 0, none⟩)) :: ys2)), rBig fileLoc ys1]))) (by simpa using h)
      exact ⟨b1.cell rfl, b1.cell rfl, b2.cell rfl⟩
    obtain ⟨c1, c2, c3⟩ := hpre _ [] _ h2
    have HP := hid hpre
    have HX := hid (Held.bytes (l1 := rBlk w.heap.size 185 #[.int .i64 0, sv name, .int .i64 k, .slice bA bs.length bc] :: (A ++ [rMapB Tryz.prog 9 bm (filesL (ys1 ++ ((name, x), .pointer (some ⟨b, 0, none⟩)) :: ys2)), rBig fileLoc ys1, rBlk b 190 #[.slice sA x.length sc]])) (by simpa using h2))
    have HH := hid h2
    obtain ⟨m, hm⟩ : ∃ m : Nat, m = k + bs.length - x.length := ⟨_, rfl⟩
    have hw1 : IntKind.i64.wrap ((k : Int) + bs.length) = (k : Int) + bs.length := by rw [IntKind.wrap_i64]; omega
    have hw2 : IntKind.i64.wrap ((k : Int) + bs.length - x.length) = (k : Int) + bs.length - x.length := by rw [IntKind.wrap_i64]; omega
    have HV := hid (show (if 0 < IntKind.i64.wrap (IntKind.i64.wrap ((k : Int) + bs.length) - x.length) then IntKind.i64.wrap (IntKind.i64.wrap ((k : Int) + bs.length) - x.length) else 0) = (m : Int) by
      rw [hw1, hw2]
      split <;> omega)
    have HM := hid hm
    clear hpre h2 hm hw1 hw2
    go_enter Tryz.func172, Tryz.ntmps172
    go_wp2_with fail
    go_region_held3 (fun w' => w'.cell? ⟨w.heap.size, 2, none⟩ = some (.int .i64 k) ∧ w'.cell? ⟨w.heap.size, 3, none⟩ = some (.slice bA bs.length bc) ∧ w'.cell? ⟨b, 0, none⟩ = some (.slice sA x.length sc))
      (first | exact ⟨c1, c2, c3⟩ | exact ⟨d1, d2, d3⟩ | exact ⟨d4, d5, d6⟩)
      (first
        | (go_at_call 103; refine (clone_held (HH.out.step ((Mod.refl _ _).drew)) (fun _ => True) _ x HX.out (by omega)).mono ?_; rintro e w1 ⟨v1, rfl, g1⟩; obtain ⟨d1, d2, d3⟩ := HP.out _ [rBytes v1 x] _ g1; have G1 := hid g1; clear g1)
        | (refine step_max rfl _ _ 3 rfl 0 _ m rfl rfl HV.out ?_)
        | (refine step_zeros_held _ [] _ rfl _ _ 87 3 rfl 5 i0 (.int .u8 0) .i64 .i64 1 Tryz.underlying87 Tryz.underlying3 HI.out.1 HI.out.2.1 HI.out.2.2.1 HI.out.2.2.2 rfl rfl _ (bytesV x) x.length (bytesV_length x) rfl G1.out m rfl (by have := HM.out; unfold maxLen; omega) (by have := HM.out; omega) ?_; intro vA vc w2 g2; obtain ⟨d4, d5, d6⟩ := HP.out _ [_] _ g2; have G2 := hid g2; clear g2))
    all_goals
      have HC := hid (src_cells (HS.out w2.drew [rMapB Tryz.prog 9 bm (filesL (ys1 ++ ((name, x), .pointer (some ⟨b, 0, none⟩)) :: ys2)), rBig fileLoc ys1, rBlk b 190 #[.slice sA x.length sc], rBytes (.slice sA x.length sc) x, rBig fileLoc ys2] (by
        have g := Held.drop (l1 := []) (Held.drop (l1 := []) (G2.out.step ((Mod.refl _ _).drew)))
        simpa using g)))
      have lk1 : (k : Int) ≤ ((x.length + m : Nat) : Int) := by have := HM.out; omega
      have lk2 : k ≤ x.length + m := by have := HM.out; omega
      have lk3 : (0 : Int) ≤ (k : Int) := by omega
      have lk4 : (k : Int) ≤ (x.length : Int) + (m : Int) := by omega
      obtain ⟨lv1, hvA⟩ := own_addr G2.out
      have lk5 : (x.length : Int) + (m : Int) ≤ (vc : Int) := by omega
      have lk6 : (k : Int) ≤ (vc : Int) := by omega
      rcases hvA with ⟨rfl, rfl, hz⟩ | ⟨g, rfl⟩
      · obtain ⟨k', hk'⟩ : ∃ k' : Nat, k' = k := ⟨_, rfl⟩
        have hk0 : k = 0 := by omega
        have HK := hid hk'
        subst hk0
        have lk7 : (0 : Int) ≤ (x.length : Int) + (m : Int) := by omega
        have lk8 : (x.length : Int) + (m : Int) ≤ 0 := by omega
        have lk9 : x.length + m ≤ 0 := by omega
        clear hk' hz
        go_wp2_with fail
        go_region_held3 (fun w' => w'.cell? ⟨w.heap.size, 2, none⟩ = some (.int .i64 (0 : Nat)) ∧ w'.cell? ⟨w.heap.size, 3, none⟩ = some (.slice bA bs.length bc) ∧ w'.cell? ⟨b, 0, none⟩ = some (.slice sA x.length sc))
            (first | exact ⟨d4, d5, d6⟩ | exact ⟨d7, d8, d9⟩)
            (first
              | (refine step_copy_held (l1 := []) rfl _ _ 87 87 rfl 5 Tryz.underlying87 (by kernel_rfl) _ _ (G2.out.step ((Mod.refl _ _).drew)) _ _ _ _ _ _ rfl rfl (0 : Nat) (bytesV bs) (by have := HM.out; rw [bytesV_length]; exact (Nat.min_eq_left (by omega)).symm) (fun h0 => by exfalso; have := HM.out; rw [bytesV_length] at h0; omega) (by have := HM.out; simp only [List.length_append, bytesV_length, List.length_replicate]; omega) (bytesV_one _) ?_; intro w3 g3; obtain ⟨d7, d8, d9⟩ := HP.out _ [_] _ g3; have G3 := hid g3; clear g3))
        all_goals
          obtain ⟨hb3, hf3⟩ := blk_of_held G3.out
          go_wp2_with fail
          go_end0
          refine ⟨rfl, ?_⟩
          rw [← HG.out.2.2]
          have g3 := G3.out
          rw [splice_overlay x bs 0 m HM.out] at g3
          exact write_end HG.out.1 HG.out.2.1 g3
      · by_cases hck : vc = k
        · subst hck
          go_wp2_with fail
          go_region_held3 (fun w' => w'.cell? ⟨w.heap.size, 2, none⟩ = some (.int .i64 vc) ∧ w'.cell? ⟨w.heap.size, 3, none⟩ = some (.slice bA bs.length bc) ∧ w'.cell? ⟨b, 0, none⟩ = some (.slice sA x.length sc))
            (first | exact ⟨d4, d5, d6⟩ | exact ⟨d7, d8, d9⟩)
            (first
              | (refine step_copy_held (l1 := []) rfl _ _ 87 87 rfl 5 Tryz.underlying87 (by kernel_rfl) _ _ (G2.out.step ((Mod.refl _ _).drew)) _ _ _ _ _ _ rfl rfl vc (bytesV bs) (by have := HM.out; rw [bytesV_length]; exact (Nat.min_eq_left (by omega)).symm) (fun h0 => by exfalso; have := HM.out; rw [bytesV_length] at h0; omega) (by have := HM.out; simp only [List.length_append, bytesV_length, List.length_replicate]; omega) (bytesV_one _) ?_; intro w3 g3; obtain ⟨d7, d8, d9⟩ := HP.out _ [_] _ g3; have G3 := hid g3; clear g3))
          all_goals
            obtain ⟨hb3, hf3⟩ := blk_of_held G3.out
            go_wp2_with fail
            go_end0
            refine ⟨rfl, ?_⟩
            rw [← HG.out.2.2]
            have g3 := G3.out
            rw [splice_overlay x bs vc m HM.out] at g3
            exact write_end HG.out.1 HG.out.2.1 g3
        · go_wp2_with fail
          go_region_held3 (fun w' => w'.cell? ⟨w.heap.size, 2, none⟩ = some (.int .i64 k) ∧ w'.cell? ⟨w.heap.size, 3, none⟩ = some (.slice bA bs.length bc) ∧ w'.cell? ⟨b, 0, none⟩ = some (.slice sA x.length sc))
            (first | exact ⟨d4, d5, d6⟩ | exact ⟨d7, d8, d9⟩)
            (first
              | (refine step_copy_held (l1 := []) rfl _ _ 87 87 rfl 5 Tryz.underlying87 (by kernel_rfl) _ _ (G2.out.step ((Mod.refl _ _).drew)) _ _ _ _ _ _ rfl rfl k (bytesV bs) (by have := HM.out; rw [bytesV_length]; exact (Nat.min_eq_left (by omega)).symm) (fun h0 => ⟨fun g' n' c' e => by cases e; first | rfl | (show some _ = some _; congr 1), HC.out h0⟩) (by have := HM.out; simp only [List.length_append, bytesV_length, List.length_replicate]; omega) (bytesV_one _) ?_; intro w3 g3; obtain ⟨d7, d8, d9⟩ := HP.out _ [_] _ g3; have G3 := hid g3; clear g3))
          all_goals
            obtain ⟨hb3, hf3⟩ := blk_of_held G3.out
            go_wp2_with fail
            go_end0
            refine ⟨rfl, ?_⟩
            rw [← HG.out.2.2]
            have g3 := G3.out
            rw [splice_overlay x bs k m HM.out] at g3
            exact write_end HG.out.1 HG.out.2.1 g3
end Go.Proofs.YtdbhccehbjhbpaaGreatDoor

/- disk: files.does whole; made, look over a held disk. -/
namespace Go.Proofs.YtdbhccehbjhbpaaGreatDoor
open Go.RowKit
open Disk

def deedV (a : Deed) (bA : Option Addr) (bc : Nat) : Value := .agg #[.int .i64 a.kind, sv a.name, .int .i64 a.at_, .slice bA a.b.length bc]

theorem fdoes_held {w0 w : World} {A B : List Res} {bm : Nat} {f : Files} (h : Held w0 w (A ++ rFiles bm f :: B)) (a : Deed) (bA : Option Addr) (bc : Nat) (hb : Src w0 A B (.slice bA a.b.length bc) (bytesV a.b))
    (hn : a.name.length ≤ 9223372036854775807) (hk : a.kind ≤ 2) (hsz : a.at_ + a.b.length ≤ 1073741824) (hfs : ∀ x, Dict.get f a.name = some x → x.length ≤ 1073741824) :
    Calls Tryz.prog 172 #[.map (some bm), deedV a bA bc] w fun e w' => e = .returned (.tuple #[]) ∧ Held w0 w' (A ++ rFiles bm (Files.does f a) :: B) := by
  obtain ⟨kind, name, at_, b⟩ := a
  simp only at *
  have hc : kind = 0 ∨ kind = 1 ∨ kind = 2 := by omega
  rcases hc with rfl | rfl | rfl
  · exact fdoes_write h name at_ b bA bc hb hn hsz hfs
  · exact fdoes_cut h name at_ (.slice bA b.length bc) hn (by omega)
  · exact fdoes_drop h name at_ (.slice bA b.length bc) hn

/-! ### a disk that is held -/
section
variable {w0 w : World} {A B : List Res} {p : Nat} {d : Dk}
theorem Held.disk_open (h : Held w0 w (A ++ rDisk p d :: B)) : ∃ i, Held w0 w (A ++ (diskRes p d i ++ B)) := by
  obtain ⟨i, _, h⟩ := h.open_some
  exact ⟨i, h⟩
theorem Held.disk_close (i : DiskIn) (h : Held w0 w (A ++ (diskRes p d i ++ B))) : Held w0 w (A ++ rDisk p d :: B) := Held.close_some i trivial h
theorem Held.disk_blk {i : DiskIn} (h : Held w0 w (A ++ (diskRes p d i ++ B))) : Blk w p 81 (diskCells d i) := Held.blk (l2 := [rFiles i.bs d.seen, rFiles i.bl d.lasting, rActs i.vp d.pending, rHeld i.bh d.held] ++ B) (by simpa [diskRes] using h)
end

theorem neqFilesNil (w : World) (r : Option Nat) : (binOp .neq 77 (.map r) (.map none)).run Tryz.prog w = .ok (.bool r.isSome) w := by
  rw [run_neq_map_nil (P := Tryz.prog) w 77 9 180 r Tryz.underlying77]
  cases r <;> rfl

theorem dmade_nil (w : World) : Calls Tryz.prog 147 #[.pointer none] w fun e w' => e = .returned (.bool false) ∧ w = w' := by
  go_enter Tryz.func147, Tryz.ntmps147
  go_wp2
  go_ret
  exact ⟨rfl, rfl⟩
theorem dmade_any (w : World) (b : Nat) (m : Option Nat) (h : w.cell? ⟨b, 1, none⟩ = some (.map m)) : Calls Tryz.prog 147 #[.pointer (some ⟨b, 0, none⟩)] w fun e w' => e = .returned (.bool m.isSome) ∧ w = w' := by
  have e1 := neqFilesNil
  go_enter Tryz.func147, Tryz.ntmps147
  go_wp2
  go_ret
  exact ⟨rfl, rfl⟩

set_option maxRecDepth 100000 in
theorem dlook_none (w : World) (p bs : Nat) (name : Bytes) (hn : name.length ≤ 9223372036854775807) (hc : w.cell? ⟨p, 1, none⟩ = some (.map (some bs)))
    (hlk : ∀ w', Mod (fun _ => False) w w' → (Instr.lookup 77 (.map (some bs)) (sv name) false).run Tryz.prog w' = .ok (.pointer none) w') :
    Calls Tryz.prog 122 #[.pointer (some ⟨p, 0, none⟩), sv name] w fun e w' => e = .returned (.tuple #[.pointer none, .int .i64 (if may name = false then 6 else 20)]) ∧ Mod (fun _ => False) w w' := by
  have HM := hid (dmade_any w p (some bs) hc)
  have HY := hid (may_any w name hn)
  have HL := hid hlk
  clear hlk
  go_enter Tryz.func122, Tryz.ntmps122
  go_wp2_with (first
    | (go_at_call 147; refine HM.out.mono ?_; rintro e w' ⟨rfl, rfl⟩))
  refine HY.out.mono ?_
  rintro e w1 ⟨rfl, hm⟩
  have hc1 := hm.cell hc (fun h => h)
  have hl1 := HL.out w1 hm
  have HO := hid hm
  clear hm
  cases hmay : may name with
  | false =>
    go_wp2_with fail
    all_goals
      go_ret2
      exact ⟨rfl, HO.out⟩
  | true =>
    go_wp2_with fail
    all_goals
      go_ret2
      exact ⟨rfl, HO.out⟩

set_option maxRecDepth 100000 in
theorem dlook_some (w : World) (p bs b : Nat) (name : Bytes) (hn : name.length ≤ 9223372036854775807) (hc : w.cell? ⟨p, 1, none⟩ = some (.map (some bs)))
    (hlk : ∀ w', Mod (fun _ => False) w w' → (Instr.lookup 77 (.map (some bs)) (sv name) false).run Tryz.prog w' = .ok (.pointer (some ⟨b, 0, none⟩)) w') :
    Calls Tryz.prog 122 #[.pointer (some ⟨p, 0, none⟩), sv name] w fun e w' => e = .returned (if may name = false then .tuple #[.pointer none, .int .i64 6] else .tuple #[.pointer (some ⟨b, 0, none⟩), .int .i64 0]) ∧ Mod (fun _ => False) w w' := by
  have HM := hid (dmade_any w p (some bs) hc)
  have HY := hid (may_any w name hn)
  have HL := hid hlk
  clear hlk
  go_enter Tryz.func122, Tryz.ntmps122
  go_wp2_with (first
    | (go_at_call 147; refine HM.out.mono ?_; rintro e w' ⟨rfl, rfl⟩))
  refine HY.out.mono ?_
  rintro e w1 ⟨rfl, hm⟩
  have hc1 := hm.cell hc (fun h => h)
  have hl1 := HL.out w1 hm
  have HO := hid hm
  clear hm
  cases hmay : may name with
  | false =>
    go_wp2_with fail
    all_goals
      go_ret2
      exact ⟨rfl, HO.out⟩
  | true =>
    go_wp2_with fail
    all_goals
      go_ret2
      exact ⟨rfl, HO.out⟩
end Go.Proofs.YtdbhccehbjhbpaaGreatDoor

/- disk: files.copied. -/
namespace Go.Proofs.YtdbhccehbjhbpaaGreatDoor
open Go.RowKit
open Disk

/-- what the step of a range hands over. -/
def NextPost (w0 : World) (A B : List Res) (it bm : Nat) (L todo : List (Value × Value)) (k v : Value) (w' : World) : Prop :=
  ∃ todo', todo.Perm ((k, v) :: todo') ∧ (k, v) ∈ L ∧ (Instr.entry (.pointer (some ⟨it, 0, none⟩))).run Tryz.prog w' = .ok (.tuple #[k, v]) w' ∧ Held w0 w' (A ++ rIter Tryz.prog 9 it bm L todo' :: B)

/-- a range over files half way: ds came, ts are to come; the new files are those of ds. -/
def copyRes (it bo bm : Nat) (ys zs : List ((Bytes × Bytes) × Value)) (todo : List (Value × Value)) : List Res :=
  [rMapB Tryz.prog 9 bo (filesL zs), rBig fileLoc zs, rIter Tryz.prog 9 it bm (filesL ys) todo, rBig fileLoc ys]
def CopyAt (w0 : World) (A B : List Res) (it bo bm : Nat) (ys : List ((Bytes × Bytes) × Value)) (w : World) (n : Nat) : Prop :=
  ∃ ds ts zs todo, (ds ++ ts).Perm ys ∧ todo.Perm (filesL ts) ∧ zs.map (·.1) = ds.map (·.1) ∧ ts.length = n ∧ Held w0 w (A ++ (copyRes it bo bm ys zs todo ++ B))

theorem perm_copy {α : Type} (o g i y : α) (A B : List α) : (g :: o :: (A ++ i :: y :: B)).Perm (A ++ ([o, g, i, y] ++ B)) := by
  have h : ([g, o] ++ A ++ (i :: y :: B)).Perm (A ++ [o, g] ++ (i :: y :: B)) := by
    refine List.Perm.append_right _ (List.perm_append_comm.trans (List.Perm.append_left _ ?_))
    exact List.Perm.swap _ _ _
  simpa using h

theorem IterAt.left {P : Program} {kt : TypeId} {w : World} {r b : Nat} {L todo : List (Value × Value)} (h : IterAt P kt w r b L todo) : w.rangeLeft b r = todo.length := by
  obtain ⟨es, clk, since, seen, c0, hb, hr, _, hl, _⟩ := h
  unfold World.rangeLeft
  rw [hb, hr]
  have := hl.length_eq
  simpa [entL] using this

theorem files_pick {ts : List ((Bytes × Bytes) × Value)} {k v : Value} {todo : List (Value × Value)} (h : (filesL ts).Perm ((k, v) :: todo)) :
    ∃ y ts1 ts2, ts = ts1 ++ y :: ts2 ∧ sv y.1.1 = k ∧ y.2 = v ∧ (filesL (ts1 ++ ts2)).Perm todo := by
  have hm : (k, v) ∈ filesL ts := h.mem_iff.2 (by simp)
  obtain ⟨y, hy, e⟩ := List.mem_map.1 hm
  obtain ⟨ts1, ts2, rfl⟩ := List.append_of_mem hy
  obtain ⟨e1, e2⟩ := Prod.mk.inj e
  refine ⟨y, ts1, ts2, rfl, e1, e2, ?_⟩
  have h2 : (filesL (ts1 ++ y :: ts2)).Perm ((k, v) :: filesL (ts1 ++ ts2)) := by
    unfold filesL
    rw [List.map_append, List.map_cons, List.map_append, e]
    exact List.perm_middle
  exact (List.perm_cons _).1 (h2.symm.trans h)

theorem file_at {w0 w : World} {A B : List Res} {ys : List ((Bytes × Bytes) × Value)} (h : Held w0 w (A ++ rBig fileLoc ys :: B)) {y : (Bytes × Bytes) × Value} (hy : y ∈ ys) :
    ∃ b s, y.2 = .pointer (some ⟨b, 0, none⟩) ∧ Blk w b 190 #[s] ∧ Rd (fun _ => True) w s (bytesV y.1.2) := by
  obtain ⟨ys1, ys2, rfl⟩ := List.append_of_mem hy
  have h1 := Held.big_split fileLoc h
  have h2 := Held.big_uncons (l1 := A ++ [rBig fileLoc ys1]) fileLoc (by simpa using h1)
  obtain ⟨⟨b, s⟩, hv, h3⟩ := Held.open_some (l1 := A ++ [rBig fileLoc ys1]) (Rs' := fun a : Nat × Value => [rBlk a.1 190 #[a.2], rBytes a.2 y.1.2]) (q := fun a => y.2 = .pointer (some ⟨a.1, 0, none⟩)) h2
  exact ⟨b, s, hv, Held.blk h3, Held.bytes (l1 := A ++ [rBig fileLoc ys1, rBlk b 190 #[s]]) (by simpa using h3)⟩

theorem copy_end {w0 w : World} {A B : List Res} {it bo bm : Nat} {f : Files} {ys ds ts zs : List ((Bytes × Bytes) × Value)} (hp : (ys.map (·.1)).Perm f) (hd : (ds ++ ts).Perm ys) (ht : ([] : List (Value × Value)).Perm (filesL ts)) (hz : zs.map (·.1) = ds.map (·.1))
    (hh : Held w0 w (A ++ (copyRes it bo bm ys zs [] ++ B))) : Held w0 w (A ++ rFiles bo f :: rFiles bm f :: B) := by
  have hts : ts = [] := by
    have := ht.length_eq
    simp only [filesL, List.length_nil, List.length_map] at this
    exact List.eq_nil_of_length_eq_zero this.symm
  subst hts
  rw [List.append_nil] at hd
  have h1 := Held.range_end (A := A ++ [rMapB Tryz.prog 9 bo (filesL zs), rBig fileLoc zs]) (B := rBig fileLoc ys :: B) (by simpa [copyRes] using hh)
  have h2 := Held.files_close (A := A ++ [rMapB Tryz.prog 9 bo (filesL zs), rBig fileLoc zs]) hp h1
  exact Held.files_close (A := A) (bm := bo) (ys := zs) (f := f) (by rw [hz]; exact (hd.map _).trans hp) (by simpa using h2)

theorem copy_step {w0 w : World} {A B : List Res} {it bo bm nb : Nat} {s : Value} {ys ds ts1 ts2 zs : List ((Bytes × Bytes) × Value)} {y : (Bytes × Bytes) × Value} {todo : List (Value × Value)} (hd : (ds ++ (ts1 ++ y :: ts2)).Perm ys) (hz : zs.map (·.1) = ds.map (·.1)) (hq : (filesL (ts1 ++ ts2)).Perm todo)
    (h : Held w0 w ((rBlk nb 190 #[s] :: rBytes s y.1.2 :: A) ++ rMapB Tryz.prog 9 bo ((sv y.1.1, .pointer (some ⟨nb, 0, none⟩)) :: filesL zs) :: rBig fileLoc zs :: rIter Tryz.prog 9 it bm (filesL ys) todo :: rBig fileLoc ys :: B)) :
    ∃ n, CopyAt w0 A B it bo bm ys w n := by
  refine ⟨_, y :: ds, ts1 ++ ts2, (y.1, .pointer (some ⟨nb, 0, none⟩)) :: zs, todo, ?_, hq.symm, by simp [hz], rfl, ?_⟩
  · refine List.Perm.trans ?_ hd
    rw [List.cons_append, ← List.append_assoc, ← List.append_assoc]
    exact List.perm_middle.symm
  · have h1 : Held w0 w (rFile (y.1, .pointer (some ⟨nb, 0, none⟩)) :: (A ++ rMapB Tryz.prog 9 bo ((sv y.1.1, .pointer (some ⟨nb, 0, none⟩)) :: filesL zs) :: rBig fileLoc zs :: rIter Tryz.prog 9 it bm (filesL ys) todo :: rBig fileLoc ys :: B)) := Held.close_some (l1 := []) (l2 := A ++ rMapB Tryz.prog 9 bo ((sv y.1.1, .pointer (some ⟨nb, 0, none⟩)) :: filesL zs) :: rBig fileLoc zs :: rIter Tryz.prog 9 it bm (filesL ys) todo :: rBig fileLoc ys :: B) (Rs' := fun a : Nat × Value => [rBlk a.1 190 #[a.2], rBytes a.2 y.1.2]) (q := fun a : Nat × Value => Value.pointer (some ⟨nb, 0, none⟩) = .pointer (some ⟨a.1, 0, none⟩)) (nb, s) rfl h
    have h2 := h1.perm (Rs' := (A ++ [rMapB Tryz.prog 9 bo ((sv y.1.1, .pointer (some ⟨nb, 0, none⟩)) :: filesL zs)]) ++ rFile (y.1, .pointer (some ⟨nb, 0, none⟩)) :: rBig fileLoc zs :: rIter Tryz.prog 9 it bm (filesL ys) todo :: rBig fileLoc ys :: B) (by
      simpa using (List.perm_middle (a := rFile (y.1, .pointer (some ⟨nb, 0, none⟩))) (l₁ := A ++ [rMapB Tryz.prog 9 bo ((sv y.1.1, .pointer (some ⟨nb, 0, none⟩)) :: filesL zs)]) (l₂ := rBig fileLoc zs :: rIter Tryz.prog 9 it bm (filesL ys) todo :: rBig fileLoc ys :: B)).symm)
    have h3 := Held.big_cons (l1 := A ++ [rMapB Tryz.prog 9 bo ((sv y.1.1, .pointer (some ⟨nb, 0, none⟩)) :: filesL zs)]) fileLoc (x := (y.1, .pointer (some ⟨nb, 0, none⟩))) h2
    simpa [copyRes, filesL] using h3

theorem copy_fresh {f : Files} {ys ds ts1 ts2 zs : List ((Bytes × Bytes) × Value)} {y : (Bytes × Bytes) × Value} (hok : Dict.Ok f) (hp : (ys.map (·.1)).Perm f) (hd : (ds ++ (ts1 ++ y :: ts2)).Perm ys) (hz : zs.map (·.1) = ds.map (·.1)) :
    ∀ p ∈ filesL zs, p.1 ≠ sv y.1.1 := by
  intro p hp' e
  obtain ⟨z, hz', rfl⟩ := List.mem_map.1 hp'
  have he : z.1.1 = y.1.1 := sv_inj e
  have hn : ((ds ++ (ts1 ++ y :: ts2)).map fun q => q.1.1).Nodup := by
    have h1 := ((hd.map fun q => q.1).trans hp).symm
    have h2 := Dict.Ok.perm hok h1
    unfold Dict.Ok at h2
    rwa [List.map_map] at h2
  have hzd : z.1 ∈ ds.map (·.1) := by rw [← hz]; exact List.mem_map.2 ⟨z, hz', rfl⟩
  obtain ⟨q, hq, e2⟩ := List.mem_map.1 hzd
  rw [List.map_append, List.nodup_append] at hn
  exact hn.2.2 q.1.1 (List.mem_map.2 ⟨q, hq, rfl⟩) y.1.1 (List.mem_map.2 ⟨y, by simp, rfl⟩) (by rw [e2, he])

set_option maxRecDepth 100000 in
set_option maxHeartbeats 4000000 in
theorem copied_held {w0 w : World} {A B : List Res} {bm : Nat} {f : Files} (h : Held w0 w (A ++ rFiles bm f :: B)) (hfs : ∀ p ∈ f, p.2.length ≤ 1073741824) (hns : ∀ p ∈ f, p.1.length ≤ 9223372036854775807) :
    Calls Tryz.prog 148 #[.map (some bm)] w fun e w' => ∃ bo, e = .returned (.map (some bo)) ∧ Held w0 w' (A ++ rFiles bo f :: rFiles bm f :: B) := by
  have hok := h.files_ok
  obtain ⟨ys, hp, h1⟩ := h.files_open
  have hmm := @run_makeMap Tryz.prog
  have h2 := h1.map_made Tryz.prog 9
  have HR := hid (Held.range (A := rMapB Tryz.prog 9 w.heap.size [] :: A) Tryz.underlying77 h2)
  have HG := hid (And.intro hok hp)
  clear h h1 h2 hok hp
  go_enter Tryz.func148, Tryz.ntmps148
  go_wp2_with (at_range; refine wpList_range_ex _ rfl _ 77 rfl (.map (some bm)) rfl _ _ HR.out ?c1)
  case c1 =>
    intro w1 hP
    have HB : CopyAt w0 A B (w.heap.size + 1) w.heap.size bm ys w1 ys.length := by
      refine ⟨[], ys, [], filesL ys, by simp, List.Perm.refl _, rfl, rfl, ?_⟩
      have h3 := Held.big_nil fileLoc hP
      exact h3.perm (by
        have := perm_copy (rMapB Tryz.prog 9 w.heap.size []) (rBig fileLoc []) (rIter Tryz.prog 9 (w.heap.size + 1) bm (filesL ys) (filesL ys)) (rBig fileLoc ys) A B
        exact this)
    have HB' := hid HB
    clear hP HB HR hmm
    generalize w.heap.size + 1 = it at *
    generalize w.heap.size = bo at *
    go_wp2_with fail
    go_loopw [4] (fun _ wr => ∃ n, CopyAt w0 A B it bo bm ys wr n) (fun _ wr => wr.rangeLeft bm it)
    case atStart => exact ⟨_, HB'.out⟩
    case round =>
      obtain ⟨n, ds, ts, zs, todo, hd, ht, hz, -, hh⟩ := hrel
      have HN : Hid (∀ ty, (todo = [] ∧ (Instr.next (.pointer (some ⟨it, 0, none⟩)) false ty).run Tryz.prog wr = .ok (.tuple #[.bool false]) wr) ∨ ∃ k v w', (Instr.next (.pointer (some ⟨it, 0, none⟩)) false ty).run Tryz.prog wr = .ok (.tuple #[.bool true, k, v]) w' ∧ NextPost w0 (A ++ [rMapB Tryz.prog 9 bo (filesL zs), rBig fileLoc zs]) (rBig fileLoc ys :: B) it bm (filesL ys) todo k v w') := hid (fun ty => Held.next (A := A ++ [rMapB Tryz.prog 9 bo (filesL zs), rBig fileLoc zs]) (B := rBig fileLoc ys :: B) (by simpa [copyRes] using hh) ty)
      have HI := hid (And.intro hd (And.intro ht (And.intro hz hh)))
      clear hh hd ht hz
      go_wp2_with (at_next; refine wpList_next_ex _ rfl _ rfl _ rfl _ _ HN.out ?c0 ?c1)
      case c0 =>
        rintro rfl
        go_wp2_with fail
        go_ret
        obtain ⟨hd, ht, hz, hh⟩ := HI.out
        exact ⟨bo, rfl, copy_end HG.out.2 hd ht hz hh⟩
      case c1 =>
        intro k v w2 hP
        obtain ⟨todo', hpm, hmem, hen, h2⟩ := hP
        obtain ⟨hd, ht, hz, hh⟩ := HI.out
        obtain ⟨y, ts1, ts2, rfl, rfl, rfl, hq⟩ := files_pick (ht.symm.trans hpm)
        obtain ⟨b, s, hv, hb, hr⟩ := file_at (A := A ++ [rMapB Tryz.prog 9 bo (filesL zs), rBig fileLoc zs, rIter Tryz.prog 9 it bm (filesL ys) todo']) (B := B) (by simpa using h2) (y := y) (hd.mem_iff.1 (by simp))
        have hyf : y.1 ∈ f := HG.out.2.mem_iff.1 (List.mem_map.2 ⟨y, hd.mem_iff.1 (by simp), rfl⟩)
        have hl1 := hfs y.1 hyf
        have hl2 := hns y.1 hyf
        rw [hv] at hen ⊢
        have hc := hb.cell (i := 0) rfl
        have CL := hid (clone_held h2 (fun _ => True) s y.1.2 hr (by omega))
        have HJ := hid (And.intro hd (And.intro hz (And.intro hq (And.intro hv (And.intro hpm hh)))))
        clear hd ht hz hh hq hv hb hr h2 hpm
        go_wp2_with fail
        refine CL.out.mono ?_
        rintro e w3 ⟨v1, rfl, h3⟩
        obtain ⟨vA, vc, rfl, -, -⟩ := Held.form (l1 := []) h3
        obtain ⟨hd, hz, hq, hv, hpm, hh⟩ := HJ.out
        have hno : ∀ p ∈ filesL zs, p.1 ≠ sv y.1.1 := copy_fresh HG.out.1 HG.out.2 hd hz
        have h4 := h3.block 190 #[.slice vA y.1.2.length vc]
        have HU := hid (Held.map_new (A := rBlk w3.heap.size 190 #[.slice vA y.1.2.length vc] :: rBytes (.slice vA y.1.2.length vc) y.1.2 :: A) (L := filesL zs) (bm := bo) strKeyed Tryz.underlying77 (by simpa using h4) (svKey y.1.1 hl2) hno (.pointer (some ⟨w3.heap.size, 0, none⟩)))
        clear h3 h4 hno hd hz hq hv hpm hh CL
        go_wp2_with (at_mapUpdate; refine wpList_mapUpdate_ex _ rfl _ _ _ 77 rfl _ _ _ rfl rfl rfl _ HU.out ?c2)
        case c2 =>
          intro w4 hP
          have HQ := hid hP
          clear hP HU
          go_wp2_with fail
          obtain ⟨hd, hz, hq, hv, hpm, hh⟩ := HJ.out
          have l1 := (Held.iterAt (A := A ++ [rMapB Tryz.prog 9 bo (filesL zs), rBig fileLoc zs]) (B := rBig fileLoc ys :: B) (by simpa [copyRes] using hh)).left
          have l2 := (Held.iterAt (A := (rBlk w3.heap.size 190 #[.slice vA y.1.2.length vc] :: rBytes (.slice vA y.1.2.length vc) y.1.2 :: A) ++ [rMapB Tryz.prog 9 bo ((sv y.1.1, .pointer (some ⟨w3.heap.size, 0, none⟩)) :: filesL zs), rBig fileLoc zs]) (B := rBig fileLoc ys :: B) (by simpa using HQ.out)).left
          refine ⟨copy_step hd hz hq HQ.out, ?_⟩
          rw [l1, l2, hpm.length_eq]
          simp
end Go.Proofs.YtdbhccehbjhbpaaGreatDoor

/- disk: the map of what is held. -/
namespace Go.Proofs.YtdbhccehbjhbpaaGreatDoor
open Go.RowKit
open Disk

section
variable {w0 w : World} {A B : List Res} {bm : Nat} {h : Dict Nat}
def heldL (h : Dict Nat) : List (Value × Value) := h.map fun x => (sv x.1, .int .i64 x.2)
theorem Held.held_at (hh : Held w0 w (A ++ rHeld bm h :: B)) : MapAt Tryz.prog 9 w bm (heldL h) := Held.mapAt hh
theorem Held.held_ok (hh : Held w0 w (A ++ rHeld bm h :: B)) : Dict.Ok h := by
  have hn := hh.held_at.nodup
  unfold heldL at hn
  rw [List.map_map] at hn
  unfold Dict.Ok
  exact (List.pairwise_map.1 (by rw [List.map_map]; exact hn : ((h.map (·.1)).map sv).Nodup)).imp fun hne e => hne (congrArg sv e)
theorem Held.held_perm {g : Dict Nat} (hh : Held w0 w (A ++ rHeld bm h :: B)) (hp : h.Perm g) : Held w0 w (A ++ rHeld bm g :: B) := Held.map_perm hh (hp.map _)

theorem Held.held_lookup (hh : Held w0 w (A ++ rHeld bm h :: B)) {n : Bytes} (hn : n.length ≤ 9223372036854775807) :
    (Instr.lookup 79 (.map (some bm)) (sv n) false).run Tryz.prog w = .ok (.int .i64 ((Dict.get h n).getD 0 : Nat)) w := by
  cases hg : Dict.get h n with
  | none =>
    have := hh.held_at.lookup_miss strKeyed Tryz.underlying79 (zeroInt w) (svKey n hn) (fun p hp e => by
      obtain ⟨x, hx, rfl⟩ := List.mem_map.1 hp
      exact get_none hg x hx (sv_inj e)) false
    simpa using this
  | some k =>
    have := hh.held_at.lookup_hit (v := .int .i64 k) strKeyed Tryz.underlying79 (svKey n hn) (List.mem_map.2 ⟨(n, k), get_mem hg, rfl⟩) false
    simpa using this

theorem Held.held_put (hh : Held w0 w (A ++ rHeld bm h :: B)) {n : Bytes} (hn : n.length ≤ 9223372036854775807) (k : Nat) :
    ∃ w', (Instr.mapUpdate 79 (.map (some bm)) (sv n) (.int .i64 k)).run Tryz.prog w = .ok () w' ∧ Held w0 w' (A ++ rHeld bm (Dict.put h n k) :: B) := by
  have hok := hh.held_ok
  cases hg : Dict.get h n with
  | none =>
    obtain ⟨w', h1, h2⟩ := Held.map_new strKeyed Tryz.underlying79 (L := heldL h) hh (svKey n hn) (fun p hp e => by
      obtain ⟨x, hx, rfl⟩ := List.mem_map.1 hp
      exact get_none hg x hx (sv_inj e)) (.int .i64 k)
    refine ⟨w', h1, ?_⟩
    rw [put_new hg]
    exact h2
  | some k0 =>
    obtain ⟨l1, l2, hs⟩ := List.append_of_mem (get_mem hg)
    have hp : (heldL h).Perm ((sv n, .int .i64 k0) :: heldL (l1 ++ l2)) := by
      unfold heldL
      rw [hs, List.map_append, List.map_cons, List.map_append]
      exact List.perm_middle
    obtain ⟨w', h1, h2⟩ := Held.map_old strKeyed Tryz.underlying79 (L := heldL h) hh (svKey n hn) hp (.int .i64 k)
    refine ⟨w', h1, ?_⟩
    have h3 : Held w0 w' (A ++ rHeld bm ((n, k) :: (l1 ++ l2)) :: B) := h2
    refine h3.held_perm ?_
    unfold Dict.put
    exact (del_split (.of_eq hs.symm) hok).cons _

theorem Held.held_del (hh : Held w0 w (A ++ rHeld bm h :: B)) {n : Bytes} (hn : n.length ≤ 9223372036854775807) :
    ∃ w', (∀ ty, (Builtin.delete_ #[79, 9] ty #[.map (some bm), sv n]).run Tryz.prog w = .ok (.tuple #[]) w') ∧ Held w0 w' (A ++ rHeld bm (Dict.del h n) :: B) := by
  have hok := hh.held_ok
  cases hg : Dict.get h n with
  | none =>
    obtain ⟨w', h1, h2⟩ := Held.map_nodel strKeyed Tryz.underlying79 (L := heldL h) hh (svKey n hn) (fun p hp e => by
      obtain ⟨x, hx, rfl⟩ := List.mem_map.1 hp
      exact get_none hg x hx (sv_inj e)) 9
    refine ⟨w', h1, ?_⟩
    rw [del_none hg]
    exact h2
  | some k0 =>
    obtain ⟨l1, l2, hs⟩ := List.append_of_mem (get_mem hg)
    have hp : (heldL h).Perm ((sv n, .int .i64 k0) :: heldL (l1 ++ l2)) := by
      unfold heldL
      rw [hs, List.map_append, List.map_cons, List.map_append]
      exact List.perm_middle
    obtain ⟨w', h1, h2⟩ := Held.map_del strKeyed Tryz.underlying79 (L := heldL h) hh (svKey n hn) hp 9
    refine ⟨w', h1, ?_⟩
    have h3 : Held w0 w' (A ++ rHeld bm (l1 ++ l2) :: B) := h2
    exact h3.held_perm (del_split (.of_eq hs.symm) hok)
end
end Go.Proofs.YtdbhccehbjhbpaaGreatDoor
