/- kvstore: a law. (Several texts in one file, by mz.py.) -/
import Derived.Test.YtdbhccehbjhbpaaGreatDoorK19
import Derived.Test.YtdbhccehbjhbpaaGreatDoorK2
import Derived.Test.YtdbhccehbjhbpaaGreatDoorT20
import Derived.Test.YtdbhccehbjhbpaaGreatDoorT7
import Derived.Test.YtdbhccehbjhbpaaGreatDoorK1
import Derived.BigQuiet
import Derived.Laws.Bits64b
import Derived.Deep.QuietTactic
import Derived.Test.YtdbhccehbjhbpaaGreatDoorK9
import Derived.Test.YtdbhccehbjhbpaaGreatDoorK6
import Derived.Test.YtdbhccehbjhbpaaGreatDoorK16
import Derived.Test.YtdbhccehbjhbpaaGreatDoorK13

/- kvstore's laws: what the commits of a list of calls make. -/
namespace Go.Proofs.YtdbhccehbjhbpaaGreatDoor
open Go.RowKit
open Disk (Dk Dict)
open Slog (Seg recsOf Lg)
open Kv (It KOp Items)

theorem rising_len (d : Items) (f : List UInt8 → It → Bool) : (Kv.rising d f).length ≤ d.length := by
  have := (Kv.pick_keys d f ((d.map (·.1)).mergeSort Disk.leB)).length_le
  rw [List.length_map, List.length_mergeSort, List.length_map] at this
  exact this
/-- the store behind the first k calls' commits. -/
def playK (m : Nat) (ds : List KDo) (k : Nat) : Kv.St := (kst m).play ((ds.take k).map (·.ops))
structure PlayOk (s : Kv.St) (k : Nat) : Prop where
  good : Kv.Good s
  next : s.lg.next ≤ k + 1
theorem PlayOk.ver {s : Kv.St} {k : Nat} (h : PlayOk s k) : s.version ≤ k := by have := h.good.next; have := h.next; omega
theorem playK_ok {m : Nat} (hm : m ≤ 16777216) (ds : List KDo) {k : Nat} (hk : k ≤ 60) : PlayOk (playK m ds k) k := by
  have hl : ((ds.take k).map (·.ops)).length ≤ k := by rw [List.length_map, List.length_take]; omega
  obtain ⟨h1, h2⟩ := (kst_good hm).play ((ds.take k).map (·.ops)) (by show 1 + _ ≤ 246; omega)
  refine ⟨h1, ?_⟩
  have h3 : ((kst m).play ((ds.take k).map (·.ops))).lg.next ≤ 1 + _ := h2
  show ((kst m).play ((ds.take k).map (·.ops))).lg.next ≤ k + 1
  omega
theorem playK_succ {m : Nat} {ds : List KDo} {k : Nat} (hk : k < ds.length) : playK m ds (k + 1) = ((playK m ds k).commit ds[k].ops).1 := by
  unfold playK
  rw [List.take_succ_eq_append_getElem hk, List.map_append, List.map_cons, List.map_nil, Kv.St.play_snoc]
theorem playK_all (m : Nat) (ds : List KDo) {k : Nat} (hk : ds.length ≤ k) : playK m ds k = playK m ds ds.length := by
  unfold playK
  rw [List.take_of_length_le hk, List.take_length]
theorem items_few {s : Kv.St} {k : Nat} (h : PlayOk s k) (hk : k ≤ 200) (f : List UInt8 → It → Bool) : (Kv.rising s.items f).length ≤ 60000 := by
  have := rising_len s.items f
  have := h.good.items.many
  have := h.ver
  omega

theorem le_of_gtr {a b : List UInt8} (x : (!Op.bytesLess a b && !(a == b)) = false) : a ≤ b := by
  intro h
  rw [bytesLess_eq] at x
  simp at x
  by_cases hlt : a < b
  · exact List.lt_irrefl _ (List.lt_trans hlt h)
  · exact List.lt_irrefl b (by rw [x hlt] at h; exact h)

end Go.Proofs.YtdbhccehbjhbpaaGreatDoor

/- kvstore's laws, plain: the same commits on two disks, one of them with much room (KvstoreFull). No program. -/
namespace Go.Proofs.YtdbhccehbjhbpaaGreatDoor
open Disk (Dk Dict used hold)
open Slog (Lg Seg nameB framed)

namespace Disk
theorem Dk.Ok.seen_hold {d : Dk} (h : d.Ok) (n : Bytes) : ((Dict.get d.seen n).getD []).length ≤ hold d.held n := by
  cases hs : Dict.get d.seen n with
  | none => simp
  | some x => exact (h.seenLe n x hs).2
theorem write_fits {d : Dk} (h : d.Ok) {n b : Bytes} (hm : may n = true) (hl : d.seen.length < 4096) (hr : used d.held + b.length ≤ d.room) : (d.write n b).2 = 0 := by
  have := h.seen_hold n
  exact (write_iff h n b).2 ⟨hm, fun _ => hl, by omega⟩
theorem write_used {d : Dk} (h : d.Ok) (n b : Bytes) : used (d.write n b).1.held ≤ used d.held + b.length := by
  rcases write_cases d n b with ⟨e, -, h1⟩ | h1
  · rw [h1]
    exact Nat.le_add_right _ _
  · rw [h1]
    show used (d.act _).held ≤ _
    rw [act_write_held]
    have := used_put h.heldOk n (max (hold d.held n) (((Dict.get d.seen n).getD []).length + b.length))
    have := h.seen_hold n
    omega
theorem sync_used {d : Dk} (h : d.Ok) (n : Bytes) : used (d.sync n).1.held ≤ used d.held := by
  unfold Dk.sync
  split
  · have h1 := used_freed h.heldOk (d.settle fun a => a.name == n).lasting n
    have h2 := h.get_settled n n
    rw [if_pos rfl] at h2
    rw [h2] at h1
    have := h.seen_hold n
    show used (freed d.held _ n) ≤ _
    omega
  · exact Nat.le_refl _
end Disk

namespace Slog
open Disk (write_fits write_used sync_used sync_room write_room)
theorem Good.few {d : Dk} {l : Lg} (h : Good d l) : d.seen.length < 4096 := by
  have h1 := (Holds.left h.ok h.seen).list h.chain h.small.1 h.pos
  have h2 := (Left.list_len h1).2
  have h3 := chain_len h.chain h.pos
  have := h.small.1
  omega
theorem Good.goes {d : Dk} {l : Lg} (h : Good d l) {k j : Nat} (hk : k < 1000) (hj : j ≤ 247) {r : Bytes} (hr : r.length ≤ 65535) (hroom : used d.held + 65600 ≤ d.room) : (d.write (nameB k) (framed j r)).2 = 0 := by
  have := framed_length hj r
  exact write_fits h.ok (may_name hk) h.few (by omega)
/-- put, twice. -/
theorem put_twin {w x : Dk × Int} {l l2 m m2 : Lg} (hw : w.2 = 0 ∨ w.2 = 7) (hx : x.2 = 0) (h1 : l2.segs = m2.segs) (h2 : l2.next = m2.next) (n : Nat) (h7 : (put w l l2 n).2.2.2 ≠ 7) :
    (put w l l2 n).2.2 = (put x m m2 n).2.2 ∧ (put w l l2 n).2.1.segs = (put x m m2 n).2.1.segs ∧ (put w l l2 n).2.1.next = (put x m m2 n).2.1.next := by
  rcases hw with hw | hw
  · unfold put
    rw [if_pos hw, if_pos hx]
    exact ⟨rfl, h1, h2⟩
  · unfold put at h7
    rw [if_neg (by rw [hw]; decide)] at h7
    exact absurd hw h7
theorem put_dk (w : Dk × Int) (l m : Lg) (n : Nat) : (put w l m n).1 = w.1 := by
  unfold put
  split <;> rfl
theorem append_twin {d c : Dk} {l m : Lg} (hd : Good d l) (hc : Good c m) (hs : l.segs = m.segs) (hn : l.next = m.next) (h246 : l.next ≤ 246) (hroom : used c.held + 65600 ≤ c.room) (r : Bytes) (h7 : (append d l r).2.2.2 ≠ 7) :
    (append d l r).2.2 = (append c m r).2.2 ∧ (append d l r).2.1.segs = (append c m r).2.1.segs ∧ (append d l r).2.1.next = (append c m r).2.1.next := by
  unfold append at h7 ⊢
  by_cases hr : 65535 < r.length
  · simp only [if_pos hr]
    exact ⟨by first | rfl | trivial, hs, hn⟩
  · simp only [if_neg hr] at h7 ⊢
    have hr' : r.length ≤ 65535 := by omega
    rw [← hs, ← hn]
    cases hgl : l.segs.getLast? with
    | none =>
      have hnil : l.segs = [] := List.getLast?_eq_none_iff.1 hgl
      simp only [hgl] at h7 ⊢
      have hp : d.pending = [] ∧ Holds d.lasting l.segs := by
        rcases hd.last with ⟨a, -, b⟩ | ⟨ls, s, k, e, -⟩
        · exact ⟨a, b⟩
        · rw [hnil] at e
          simp at e
      have hw := hd.write_new hp.1 hp.2 hd.mark_le (fun s hs => by rw [hnil] at hs; cases hs) hr' h246
      refine put_twin (hw.imp (fun h => h.1) fun h => by rw [h]) (hc.goes (by omega) (by omega) hr' hroom) ?_ ?_ _ h7
      · show l.segs ++ [(l.next, [r])] = m.segs ++ [(m.next, [r])]
        rw [hs, hn]
      · show l.next + 1 = m.next + 1
        rw [hn]
    | some s =>
      obtain ⟨ls, hls⟩ := List.getLast?_eq_some_iff.1 hgl
      simp only [hgl] at h7 ⊢
      have hnum := hd.last_num hls
      by_cases hf : 4096 ≤ s.bytes.length
      · simp only [if_pos hf] at h7 ⊢
        obtain ⟨-, hg, hp, hh⟩ := hd.sync hls
        obtain ⟨-, hg2, hp2, hh2⟩ := hc.sync (by rw [← hs]; exact hls)
        have hall : ∀ t ∈ l.segs, 0 < t.2.length := by
          intro t ht
          rw [hls] at ht
          rcases List.mem_append.1 ht with ht | ht
          · exact hd.pos ls s hls t ht
          · rw [List.mem_singleton.1 ht]
            cases hs2 : s.2 with
            | nil => unfold Seg.bytes at hf; rw [hs2] at hf; simp [framesOf] at hf
            | cons _ _ => simp
        have hw := Good.write_new (l := l.marked) hg hp hh (Nat.le_refl _) hall hr' h246
        have hx := Good.goes (l := m.marked) hg2 (k := l.next) (j := l.next) (by omega) (by omega) hr' (by have := sync_used hc.ok (nameB s.1); rw [sync_room]; omega)
        refine put_twin (hw.imp (fun h => h.1) fun h => by rw [show (d.sync (nameB s.1)).1.write (nameB l.next) (framed l.next r) = _ from h]) hx ?_ ?_ _ h7
        · show l.segs ++ [(l.next, [r])] = m.segs ++ [(m.next, [r])]
          rw [hs, hn]
        · show l.next + 1 = m.next + 1
          rw [hn]
      · simp only [if_neg hf] at h7 ⊢
        have hw := hd.write_more hls hr' h246
        refine put_twin (hw.imp (fun h => h.1) fun h => by rw [h]) (hc.goes (by omega) (by omega) hr' hroom) ?_ ?_ _ h7
        · show l.segs.dropLast ++ [_] = m.segs.dropLast ++ [_]
          rw [hs]
        · show l.next + 1 = m.next + 1
          rw [hn]
theorem append_used {d : Dk} {l : Lg} (h : Good d l) (hn : l.next ≤ 246) (r : Bytes) : used (append d l r).1.held ≤ used d.held + 65600 ∧ (append d l r).1.room = d.room := by
  unfold append
  by_cases hr : 65535 < r.length
  · simp only [if_pos hr]
    exact ⟨Nat.le_add_right _ _, by first | rfl | trivial⟩
  · simp only [if_neg hr]
    have hfl := framed_length (k := l.next) (by omega) r
    cases hgl : l.segs.getLast? with
    | none =>
      simp only [put_dk]
      have := write_used h.ok (nameB l.next) (framed l.next r)
      exact ⟨by omega, write_room _ _ _⟩
    | some s =>
      obtain ⟨ls, hls⟩ := List.getLast?_eq_some_iff.1 hgl
      simp only
      split
      · rw [put_dk]
        have h1 := sync_used h.ok (nameB s.1)
        have h2 := write_used (h.ok.sync (nameB s.1)) (nameB l.next) (framed l.next r)
        exact ⟨by omega, by rw [write_room, sync_room]⟩
      · rw [put_dk]
        have := write_used h.ok (nameB s.1) (framed l.next r)
        exact ⟨by omega, write_room _ _ _⟩
end Slog

namespace Kv
theorem St.refused_next {s : St} (h : Good s) (hn : s.lg.next ≤ 246) {ops : List KOp} (he : (s.commit ops).2.2 ≠ 0) : (s.commit ops).1.lg.next = s.lg.next := by
  unfold St.commit at he ⊢
  by_cases hc : check ops = 0
  · rw [if_pos hc] at he ⊢
    obtain ⟨g, a⟩ := h.log.append hn (enc (s.version + 1) ops)
    by_cases h2 : (Slog.append s.dk s.lg (enc (s.version + 1) ops)).2.2.2 = 0
    · simp only [if_pos h2] at he
      exact absurd rfl he
    · have e3 := (a.not h2).2.1
      simp only [if_neg h2]
      exact e3
  · rw [if_neg hc]
/-- two stores with the same records. -/
structure Twin (s t : St) : Prop where
  items : s.items = t.items
  version : s.version = t.version
  segs : s.lg.segs = t.lg.segs
  next : s.lg.next = t.lg.next
theorem Twin.commit {s t : St} (h : Twin s t) (hs : Good s) (ht : Good t) (hn : s.lg.next ≤ 246) (hroom : used t.dk.held + 65600 ≤ t.dk.room) (ops : List KOp) :
    ((s.commit ops).2.2 = 7 → (s.commit ops).2.1 = 0 ∧ Twin (s.commit ops).1 t) ∧ ((s.commit ops).2.2 ≠ 7 → (s.commit ops).2 = (t.commit ops).2 ∧ Twin (s.commit ops).1 (t.commit ops).1) := by
  constructor
  · intro h7
    have hne : (s.commit ops).2.2 ≠ 0 := by rw [h7]; decide
    obtain ⟨h1, h2, h3, h4, -⟩ := St.refused hs hn hne
    have h5 := St.refused_next hs hn hne
    exact ⟨h1, by rw [h3]; exact h.items, by rw [h2]; exact h.version, by rw [h4]; exact h.segs, by rw [h5]; exact h.next⟩
  · intro h7
    unfold St.commit at h7 ⊢
    by_cases hc : check ops = 0
    · simp only [if_pos hc] at h7 ⊢
      rw [← h.version, ← h.items]
      have he : (Slog.append s.dk s.lg (enc (s.version + 1) ops)).2.2.2 ≠ 7 := by
        intro e
        rw [if_neg (by rw [e]; decide)] at h7
        exact h7 e
      obtain ⟨e1, e2, e3⟩ := Slog.append_twin hs.log ht.log h.segs h.next hn hroom (enc (s.version + 1) ops) he
      by_cases h0 : (Slog.append s.dk s.lg (enc (s.version + 1) ops)).2.2.2 = 0
      · rw [if_pos h0, if_pos (by rw [← e1]; exact h0)]
        exact ⟨rfl, rfl, rfl, e2, e3⟩
      · rw [if_neg h0, if_neg (by rw [← e1]; exact h0)]
        exact ⟨by rw [← e1], rfl, rfl, e2, e3⟩
    · simp only [if_neg hc]
      exact ⟨by first | rfl | trivial, h⟩
theorem St.commit_used {s : St} (hs : Good s) (hn : s.lg.next ≤ 246) (ops : List KOp) : used (s.commit ops).1.dk.held ≤ used s.dk.held + 65600 ∧ (s.commit ops).1.dk.room = s.dk.room := by
  unfold St.commit
  by_cases hc : check ops = 0
  · simp only [if_pos hc]
    have h1 := Slog.append_used hs.log hn (enc (s.version + 1) ops)
    split
    · exact h1
    · exact h1
  · simp only [if_neg hc]
    exact ⟨Nat.le_add_right _ _, by first | rfl | trivial⟩
end Kv
end Go.Proofs.YtdbhccehbjhbpaaGreatDoor

/- kvstore, plain: what the records of a log say (KvstoreFull). No program. -/
namespace Go.Proofs.YtdbhccehbjhbpaaGreatDoor
open Disk (Dk Dict)
open Slog (Lg Seg recsOf)
namespace Kv

/-- the records of commits, from a version on. -/
def encs : Nat → List (List KOp) → List Bytes
  | _, [] => []
  | v, ops :: l => enc (v + 1) ops :: encs (v + 1) l
/-- what they make of items. -/
def plays : Items → Nat → List (List KOp) → Items
  | d, _, [] => d
  | d, v, ops :: l => plays (putAll d (v + 1) ops) (v + 1) l
theorem encs_length : ∀ (l : List (List KOp)) (v : Nat), (encs v l).length = l.length
  | [], _ => rfl
  | _ :: l, v => by rw [encs, List.length_cons, encs_length l, List.length_cons]
theorem encs_get : ∀ {l : List (List KOp)} {v k : Nat} (hk : k < l.length), (encs v l)[k]'(by rw [encs_length]; exact hk) = enc (v + k + 1) l[k]
  | _ :: _, _, 0, _ => rfl
  | _ :: l, v, k + 1, hk => by
    have := encs_get (l := l) (v := v + 1) (k := k) (by simpa using hk)
    simp only [encs, List.getElem_cons_succ]
    rw [this]
    congr 1
    omega
theorem encs_snoc : ∀ (l : List (List KOp)) (v : Nat) (ops : List KOp), encs v (l ++ [ops]) = encs v l ++ [enc (v + l.length + 1) ops]
  | [], _, _ => rfl
  | o :: l, v, ops => by
    rw [List.cons_append, encs, encs_snoc l, encs, List.cons_append, List.length_cons]
    rw [show v + 1 + l.length + 1 = v + (l.length + 1) + 1 by omega]
theorem plays_snoc : ∀ (l : List (List KOp)) (d : Items) (v : Nat) (ops : List KOp), plays d v (l ++ [ops]) = putAll (plays d v l) (v + l.length + 1) ops
  | [], _, _, _ => rfl
  | o :: l, d, v, ops => by
    rw [List.cons_append, plays, plays_snoc l, plays, List.length_cons]
    rw [show v + 1 + l.length + 1 = v + (l.length + 1) + 1 by omega]
theorem plays_take {l : List (List KOp)} {k : Nat} (hk : k < l.length) (d : Items) : plays d 0 (l.take (k + 1)) = putAll (plays d 0 (l.take k)) (k + 1) l[k] := by
  rw [List.take_succ_eq_append_getElem hk, plays_snoc, List.length_take]
  congr 1
  omega
theorem plays_ok : ∀ {l : List (List KOp)} {d : Items} {v : Nat}, ItemsOk d v → (∀ ops ∈ l, check ops = 0) → ItemsOk (plays d v l) (v + l.length)
  | [], _, _, h, _ => h
  | o :: l, d, v, h, hc => by
    obtain ⟨-, h2, h3⟩ := check_zero (hc o List.mem_cons_self)
    have := plays_ok (l := l) (h.putAll h3 h2) fun ops ho => hc ops (List.mem_cons_of_mem _ ho)
    rw [plays, List.length_cons, show v + (l.length + 1) = v + 1 + l.length by omega]
    exact this
/-- a store whose log says all that it has. -/
structure Rec (s : St) (l : List (List KOp)) : Prop where
  recs : recsOf s.lg.segs = encs 0 l
  items : s.items = plays [] 0 l
  version : s.version = l.length
  check : ∀ ops ∈ l, check ops = 0
  from_ : s.lg.from_ = 1
theorem Rec.commit {s : St} {l : List (List KOp)} (h : Rec s l) (hs : Good s) (hn : s.lg.next ≤ 246) (ops : List KOp) : ∃ m, Rec (s.commit ops).1 m := by
  unfold St.commit
  by_cases hc : Kv.check ops = 0
  · rw [if_pos hc]
    obtain ⟨g, a⟩ := hs.log.append hn (enc (s.version + 1) ops)
    by_cases he : (Slog.append s.dk s.lg (enc (s.version + 1) ops)).2.2.2 = 0
    · simp only [if_pos he]
      obtain ⟨-, -, e3, -⟩ := a.done he
      refine ⟨l ++ [ops], ?_, ?_, ?_, ?_, ?_⟩
      · rw [encs_snoc, ← h.recs, Nat.zero_add, ← h.version]
        exact e3
      · show putAll s.items (s.version + 1) ops = _
        rw [plays_snoc, ← h.items, Nat.zero_add, ← h.version]
      · show s.version + 1 = _
        rw [h.version, List.length_append]
        rfl
      · intro o ho
        rcases List.mem_append.1 ho with ho | ho
        · exact h.check o ho
        · rw [List.mem_singleton.1 ho]
          exact hc
      · show (Slog.append s.dk s.lg (enc (s.version + 1) ops)).2.1.from_ = 1
        rw [a.from_]
        exact h.from_
    · simp only [if_neg he]
      obtain ⟨-, -, e3, -⟩ := a.not he
      refine ⟨l, ?_, h.items, h.version, h.check, ?_⟩
      · show recsOf (Slog.append s.dk s.lg (enc (s.version + 1) ops)).2.1.segs = _
        rw [e3]
        exact h.recs
      · show (Slog.append s.dk s.lg (enc (s.version + 1) ops)).2.1.from_ = 1
        rw [a.from_]
        exact h.from_
  · rw [if_neg hc]
    exact ⟨l, h⟩
end Kv
open Kv (KOp)
theorem kst_rec (k : Nat) : Kv.Rec (kst k) [] := ⟨rfl, rfl, rfl, fun o h => absurd h (by simp), rfl⟩
end Go.Proofs.YtdbhccehbjhbpaaGreatDoor

/- wire: a cursor at any place: Byte, peek, Number, Text, End. -/
namespace Go.Proofs.YtdbhccehbjhbpaaGreatDoor
open Go.RowKit
open Slog (numB)

theorem or_byte (a d : Nat) (ha : a < 65536) (hd : d < 256) : bits .or .u64 ((a : Int) * 256) (d : Int) = (a : Int) * 256 + (d : Int) := by
  have h := bits_or_u64_nat (a * 256) d (by omega) (by omega)
  have h2 := Nat.two_pow_add_eq_or_of_lt (b := d) (i := 8) (by omega) a
  rw [show (2 : Nat) ^ 8 * a = a * 256 by omega] at h2
  rw [← h2] at h
  rw [show ((a : Int) * 256) = ((a * 256 : Nat) : Int) by omega, h]
  omega

set_option maxRecDepth 100000 in
theorem cpeek1_any (w : World) (q p n c at_ bb off : Nat) (x : UInt8) (hx : x.toNat ≤ 247) (hq : w.cell? ⟨q, 0, none⟩ = some (.pointer (some ⟨p, 0, none⟩))) (h0 : w.cell? ⟨p, 0, none⟩ = some (.slice (some ⟨bb, off, none⟩) n c)) (h1 : w.cell? ⟨p, 1, none⟩ = some (.int .i64 at_))
    (hn : at_ < n) (hm : n ≤ 9223372036854775807) (hc : w.cell? ⟨bb, off + at_, none⟩ = some (.int .u8 x.toNat)) :
    Calls Tryz.prog 195 #[.pointer (some ⟨q, 0, none⟩)] w fun e w' => e = .returned (.tuple #[.int .i64 x.toNat, .int .i64 1, .int .i64 0]) ∧ ∃ k, w' = w.drewN k := by
  have HM := hid (cmade_any w q p hq)
  have HL := hid (cleft_any w p _ n c at_ h0 h1 (by omega) hm)
  have hn0 : (at_ : Int) < (n : Int) := by omega
  have hnn : (0 : Int) ≤ (at_ : Int) := by omega
  have hn1 : ¬ (((n - at_ : Nat) : Int) = 0) := by omega
  go_enter Tryz.func195, Tryz.ntmps195
  go_wp2_with (first
    | (go_at_call 158; refine HM.out.mono ?_; rintro e w' ⟨rfl, rfl⟩)
    | (go_at_call 159; refine HL.out.mono ?_; rintro e w' ⟨rfl, k1, rfl⟩))
  go_quiet (fail)
  go_wp2_with fail
  go_ret3
  exact ⟨rfl, _, rfl⟩

set_option maxRecDepth 100000 in
theorem cpeek2_any (w : World) (q p n c at_ bb off : Nat) (d0 : Nat) (hd0 : d0 < 256) (hbig : 247 < d0)
    (hq : w.cell? ⟨q, 0, none⟩ = some (.pointer (some ⟨p, 0, none⟩))) (h0 : w.cell? ⟨p, 0, none⟩ = some (.slice (some ⟨bb, off, none⟩) n c)) (h1 : w.cell? ⟨p, 1, none⟩ = some (.int .i64 at_))
    (hn : at_ + 1 < n) (hnc : n ≤ c) (hcm : c ≤ 9223372036854775807) (hc : w.cell? ⟨bb, off + at_, none⟩ = some (.int .u8 248)) (hc0 : w.cell? ⟨bb, off + (at_ + 1), none⟩ = some (.int .u8 (d0 : Nat))) :
    Calls Tryz.prog 195 #[.pointer (some ⟨q, 0, none⟩)] w fun e w' => e = .returned (.tuple #[.int .i64 (d0 : Nat), .int .i64 2, .int .i64 0]) ∧ ∃ k, w' = w.drewN k := by
  have HM := hid (cmade_any w q p hq)
  have HL := hid (fun k => cleft_any (w.drewN k) p _ n c at_ (by simpa using h0) (by simpa using h1) (by omega) (by omega))
  have hn0 : (at_ : Int) < (n : Int) := by omega
  have hnn : (0 : Int) ≤ (at_ : Int) := by omega
  have hn1 : ¬ (((n - at_ : Nat) : Int) = 0) := by omega
  have hn2 : ¬ (((n - at_ : Nat) : Int) ≤ 1) := by omega
  have hw1 : IntKind.i64.wrap ((at_ : Int) + 1) = (at_ : Int) + 1 := by rw [IntKind.wrap_i64]; omega
  have hw2 : IntKind.i64.wrap ((at_ : Int) + 1 + 1) = (at_ : Int) + 1 + 1 := by rw [IntKind.wrap_i64]; omega
  have hle1 : (0 : Int) ≤ (at_ : Int) + 1 := by omega
  have hle2 : (at_ : Int) + 1 ≤ (at_ : Int) + 1 + 1 := by omega
  have hle3 : (at_ : Int) + 1 + 1 ≤ (c : Int) := by omega
  go_enter Tryz.func195, Tryz.ntmps195
  go_wp2_with (first
    | (go_at_call 158; refine HM.out.mono ?_; rintro e w' ⟨rfl, rfl⟩)
    | (go_at_call 159; refine (HL.out 0).mono ?_; rintro e w' ⟨rfl, k1, rfl⟩))
  go_quiet (fail)
  go_wp2_with (first
    | (go_at_call 159; refine (HL.out _).mono ?_; rintro e w' ⟨rfl, k2, rfl⟩))
  go_quiet (fail)
  go_wp2_with fail
  have or0 : bits .or .u64 0 (d0 : Int) = (d0 : Int) := by have := or_byte 0 d0 (by decide) hd0; simpa using this
  have hb1 : ¬ ((d0 : Int) ≤ 247) := by omega
  have hz : ((d0 : Int) == 0) = false := by rw [beq_eq_false_iff_ne]; omega

  refine wp_loop_rounds 2 ?_
  rw [rounds_succ]
  go_wp2_with fail
  rw [rounds_succ]
  go_wp2_with fail


  go_ret3
  exact ⟨rfl, _, rfl⟩
set_option maxRecDepth 100000 in
theorem cpeek3_any (w : World) (q p n c at_ bb off : Nat) (d0 d1 : Nat) (hd0 : d0 < 256) (hd1 : d1 < 256) (hbig : 0 < d0)
    (hq : w.cell? ⟨q, 0, none⟩ = some (.pointer (some ⟨p, 0, none⟩))) (h0 : w.cell? ⟨p, 0, none⟩ = some (.slice (some ⟨bb, off, none⟩) n c)) (h1 : w.cell? ⟨p, 1, none⟩ = some (.int .i64 at_))
    (hn : at_ + 2 < n) (hnc : n ≤ c) (hcm : c ≤ 9223372036854775807) (hc : w.cell? ⟨bb, off + at_, none⟩ = some (.int .u8 249)) (hc0 : w.cell? ⟨bb, off + (at_ + 1), none⟩ = some (.int .u8 (d0 : Nat))) (hc1 : w.cell? ⟨bb, off + (at_ + 1) + 1, none⟩ = some (.int .u8 (d1 : Nat))) :
    Calls Tryz.prog 195 #[.pointer (some ⟨q, 0, none⟩)] w fun e w' => e = .returned (.tuple #[.int .i64 (d0 * 256 + d1 : Nat), .int .i64 3, .int .i64 0]) ∧ ∃ k, w' = w.drewN k := by
  have HM := hid (cmade_any w q p hq)
  have HL := hid (fun k => cleft_any (w.drewN k) p _ n c at_ (by simpa using h0) (by simpa using h1) (by omega) (by omega))
  have hn0 : (at_ : Int) < (n : Int) := by omega
  have hnn : (0 : Int) ≤ (at_ : Int) := by omega
  have hn1 : ¬ (((n - at_ : Nat) : Int) = 0) := by omega
  have hn2 : ¬ (((n - at_ : Nat) : Int) ≤ 2) := by omega
  have hw1 : IntKind.i64.wrap ((at_ : Int) + 1) = (at_ : Int) + 1 := by rw [IntKind.wrap_i64]; omega
  have hw2 : IntKind.i64.wrap ((at_ : Int) + 1 + 2) = (at_ : Int) + 1 + 2 := by rw [IntKind.wrap_i64]; omega
  have hle1 : (0 : Int) ≤ (at_ : Int) + 1 := by omega
  have hle2 : (at_ : Int) + 1 ≤ (at_ : Int) + 1 + 2 := by omega
  have hle3 : (at_ : Int) + 1 + 2 ≤ (c : Int) := by omega
  go_enter Tryz.func195, Tryz.ntmps195
  go_wp2_with (first
    | (go_at_call 158; refine HM.out.mono ?_; rintro e w' ⟨rfl, rfl⟩)
    | (go_at_call 159; refine (HL.out 0).mono ?_; rintro e w' ⟨rfl, k1, rfl⟩))
  go_quiet (fail)
  go_wp2_with (first
    | (go_at_call 159; refine (HL.out _).mono ?_; rintro e w' ⟨rfl, k2, rfl⟩))
  go_quiet (fail)
  go_wp2_with fail
  have or0 : bits .or .u64 0 (d0 : Int) = (d0 : Int) := by have := or_byte 0 d0 (by decide) hd0; simpa using this
  have hb1 : ¬ ((d0 : Int) * 256 + (d1 : Int) ≤ 247) := by omega
  have or1 := or_byte d0 d1 (by omega) hd1
  have hz : (((d0 : Int) * 256 + (d1 : Int)) / 256 == 0) = false := by rw [beq_eq_false_iff_ne]; omega
  refine wp_loop_rounds 3 ?_
  rw [rounds_succ]
  go_wp2_with fail
  rw [rounds_succ]
  go_wp2_with fail
  rw [rounds_succ]
  go_wp2_with fail
  go_ret3
  exact ⟨by simp, _, rfl⟩

theorem numB_forms (v : Nat) (hv : v < 65536) : (v ≤ 247 ∧ numB v = [UInt8.ofNat v]) ∨ (247 < v ∧ v < 256 ∧ numB v = [248, UInt8.ofNat v]) ∨ (256 ≤ v ∧ numB v = [249, UInt8.ofNat (v / 256), UInt8.ofNat v]) := by
  unfold numB
  by_cases h1 : v ≤ 247
  · exact .inl ⟨h1, if_pos h1⟩
  · rw [if_neg h1]
    by_cases h2 : v < 256
    · refine .inr (.inl ⟨by omega, h2, ?_⟩)
      have hw : Slog.width v = 1 := by unfold Slog.width; rw [if_pos h2]
      rw [hw]
      simp [Slog.bytesOf]
    · refine .inr (.inr ⟨by omega, ?_⟩)
      have hw : Slog.width v = 2 := by unfold Slog.width; rw [if_neg h2, if_pos hv]
      rw [hw]
      simp [Slog.bytesOf]
theorem ofNat_toNat {v : Nat} (h : v < 256) : (UInt8.ofNat v).toNat = v := by simp; omega
theorem drop_at {b l r : List UInt8} {k : Nat} (h : b.drop k = l ++ r) {i : Nat} (hi : i < l.length) : ∃ hk : k + i < b.length, b[k + i] = l[i] := by
  have hlen : (b.drop k).length = l.length + r.length := by rw [h, List.length_append]
  rw [List.length_drop] at hlen
  refine ⟨by omega, ?_⟩
  have h1 : (b.drop k)[i]'(by rw [h, List.length_append]; omega) = l[i] := by
    have : (l ++ r)[i]'(by rw [List.length_append]; omega) = l[i] := List.getElem_append_left hi
    rw [← this]
    congr 1
  rw [List.getElem_drop] at h1
  exact h1

/-- what is seen of a cursor. -/
structure CurSeen (w : World) (q p bb off c : Nat) (b : List UInt8) (k : Nat) : Prop where
  hq : w.cell? ⟨q, 0, none⟩ = some (.pointer (some ⟨p, 0, none⟩))
  h0 : w.cell? ⟨p, 0, none⟩ = some (.slice (some ⟨bb, off, none⟩) b.length c)
  h1 : w.cell? ⟨p, 1, none⟩ = some (.int .i64 k)
  hc : b.length ≤ c
  hm : c ≤ 9223372036854775807
  cell : ∀ i (h : i < b.length), w.cell? ⟨bb, off + i, none⟩ = some (.int .u8 b[i].toNat)
  fr : w.frozen? ⟨p, 1, none⟩ = false
theorem CurSeen.drewN {w : World} {q p bb off c : Nat} {b : List UInt8} {k : Nat} (h : CurSeen w q p bb off c b k) (n : Nat) : CurSeen (w.drewN n) q p bb off c b k :=
  ⟨by simpa using h.hq, by simpa using h.h0, by simpa using h.h1, h.hc, h.hm, fun i hi => by simpa using h.cell i hi, by simpa using h.fr⟩
theorem Held.cur_seen {w0 w : World} {B : List Res} {q k : Nat} {b : List UInt8} (h : Held w0 w (rCur q b k :: B)) (hb : b ≠ []) :
    ∃ p bb off c, CurSeen w q p bb off c b k ∧ ∀ (n k' : Nat), Held w0 ((w.drewN n).setCell ⟨p, 1, none⟩ (.int .i64 k')) (rCur q b k' :: B) := by
  obtain ⟨p, v, h1⟩ := h.cur_open
  have c1 : w.cell? ⟨q, 0, none⟩ = some (.pointer (some ⟨p, 0, none⟩)) := h1.blk0.cell rfl
  have b2 := h1.pull1.blk0
  have c3 : w.cell? ⟨p, 1, none⟩ = some (.int .i64 k) := b2.cell rfl
  have c2 : w.cell? ⟨p, 0, none⟩ = some v := b2.cell rfl
  have hr := Held.bytes (l1 := [_, _]) h1
  obtain ⟨A, c, rfl, hc, hm⟩ := Held.form (l1 := [_, _]) h1
  obtain ⟨bb, off, rfl, -, hcell⟩ := rd_at hr (k := 0) (by cases b with | nil => exact absurd rfl hb | cons x l => simp)
  refine ⟨p, bb, off, c, ⟨c1, c2, c3, hc, hm, fun i hi => ?_, b2.frozen 1⟩, fun n k' => ((h1.drewN n).pull1.store (l1 := []) 1 (.int .i64 k')).push1.cur_shut⟩
  exact hcell i hi

set_option maxRecDepth 100000 in
theorem cpeek_all (w : World) {q p bb off c k : Nat} {b r : List UInt8} (h : CurSeen w q p bb off c b k) (v : Nat) (hv : v < 65536) (hb : b.drop k = numB v ++ r) :
    Calls Tryz.prog 195 #[.pointer (some ⟨q, 0, none⟩)] w fun e w' => e = .returned (.tuple #[.int .i64 v, .int .i64 (numB v).length, .int .i64 0]) ∧ ∃ n, w' = w.drewN n := by
  have hcc := h.hc
  have hmm := h.hm
  rcases numB_forms v hv with ⟨h1, h2⟩ | ⟨h1, h3, h2⟩ | ⟨h1, h2⟩
  · rw [h2] at hb ⊢
    obtain ⟨hk, e0⟩ := drop_at hb (i := 0) (by simp)
    have c0 := h.cell (k + 0) hk
    rw [e0] at c0
    have := cpeek1_any w q p b.length c k bb off (UInt8.ofNat v) (by rw [ofNat_toNat (by omega)]; exact h1) h.hq h.h0 h.h1 hk (by omega) c0
    rw [ofNat_toNat (by omega)] at this
    exact this
  · rw [h2] at hb ⊢
    obtain ⟨hk0, e0⟩ := drop_at hb (i := 0) (by simp)
    obtain ⟨hk1, e1⟩ := drop_at hb (i := 1) (by simp)
    have c0 := h.cell (k + 0) hk0
    have c1 := h.cell (k + 1) hk1
    rw [e0] at c0
    rw [e1] at c1
    have c1' : w.cell? ⟨bb, off + (k + 1), none⟩ = some (.int .u8 v) := by
      rw [c1]
      show some (Value.int .u8 ((UInt8.ofNat v).toNat : Int)) = _
      rw [ofNat_toNat h3]
    exact cpeek2_any w q p b.length c k bb off v h3 h1 h.hq h.h0 h.h1 (by omega) hcc hmm c0 c1'
  · rw [h2] at hb ⊢
    obtain ⟨hk0, e0⟩ := drop_at hb (i := 0) (by simp)
    obtain ⟨hk1, e1⟩ := drop_at hb (i := 1) (by simp)
    obtain ⟨hk2, e2⟩ := drop_at hb (i := 2) (by simp)
    have c0 := h.cell (k + 0) hk0
    have c1 := h.cell (k + 1) hk1
    have c2 := h.cell (k + 2) hk2
    rw [e0] at c0
    rw [e1] at c1
    rw [e2] at c2
    have c1' : w.cell? ⟨bb, off + (k + 1), none⟩ = some (.int .u8 ((v / 256 : Nat) : Int)) := by
      rw [c1]
      show some (Value.int .u8 ((UInt8.ofNat (v / 256)).toNat : Int)) = _
      rw [ofNat_toNat (by omega)]
    have c2' : w.cell? ⟨bb, off + (k + 1) + 1, none⟩ = some (.int .u8 ((v % 256 : Nat) : Int)) := by
      rw [show off + (k + 1) + 1 = off + (k + 2) by omega, c2]
      show some (Value.int .u8 ((UInt8.ofNat v).toNat : Int)) = _
      simp
    have := cpeek3_any w q p b.length c k bb off (v / 256) (v % 256) (by omega) (by omega) (by omega) h.hq h.h0 h.h1 (by omega) hcc hmm c0 c1' c2'
    rw [show v / 256 * 256 + v % 256 = v by omega] at this
    exact this

set_option maxRecDepth 100000 in
theorem cnum_held {w0 w : World} {B : List Res} {q k : Nat} {b r : List UInt8} (h : Held w0 w (rCur q b k :: B)) (v : Nat) (hv : v < 65536) (hb : b.drop k = numB v ++ r) (hne : b ≠ []) :
    Calls Tryz.prog 154 #[.pointer (some ⟨q, 0, none⟩)] w fun e w' => e = .returned (.tuple #[.int .i64 v, .int .i64 0]) ∧ Held w0 w' (rCur q b (k + (numB v).length) :: B) := by
  obtain ⟨p, bb, off, c, hs, hback⟩ := h.cur_seen hne
  obtain ⟨hq, h0, h1, hc, hm, hcell, hfr⟩ := id hs
  have HP := hid (cpeek_all w hs v hv hb)
  have HH := hid hback
  have hlen : (b.drop k).length = (numB v).length + r.length := by rw [hb, List.length_append]
  rw [List.length_drop] at hlen
  have hpos : 0 < (numB v).length := by rcases numB_forms v hv with ⟨-, h2⟩ | ⟨-, -, h2⟩ | ⟨-, h2⟩ <;> rw [h2] <;> simp
  generalize (numB v).length = nb at *
  have hw1 : IntKind.i64.wrap ((k : Int) + (nb : Int)) = (k : Int) + (nb : Int) := by rw [IntKind.wrap_i64]; omega
  clear h hs hback hb hcell hlen
  go_enter Tryz.func154, Tryz.ntmps154
  go_wp2_with (first
    | (go_at_call 195; refine HP.out.mono ?_; rintro e w' ⟨rfl, k1, rfl⟩))
  go_ret2
  exact ⟨rfl, by have := HH.out k1 (k + nb); simpa using this⟩
end Go.Proofs.YtdbhccehbjhbpaaGreatDoor

/- wire: a cursor at any place: Byte, Text, End. -/
namespace Go.Proofs.YtdbhccehbjhbpaaGreatDoor
open Go.RowKit
open Slog (numB)

theorem Held.cur_seen2 {w0 w : World} {B : List Res} {q k : Nat} {b : List UInt8} (h : Held w0 w (rCur q b k :: B)) (hb : b ≠ []) :
    ∃ p bb off c, CurSeen w q p bb off c b k ∧ ∀ (n k' : Nat), Held w0 ((w.drewN n).setCell ⟨p, 1, none⟩ (.int .i64 k')) (rCur q b k' :: B) ∧ CurSeen ((w.drewN n).setCell ⟨p, 1, none⟩ (.int .i64 k')) q p bb off c b k' := by
  obtain ⟨p, v, h1⟩ := h.cur_open
  have c1 : w.cell? ⟨q, 0, none⟩ = some (.pointer (some ⟨p, 0, none⟩)) := h1.blk0.cell rfl
  have b2 := h1.pull1.blk0
  have c3 : w.cell? ⟨p, 1, none⟩ = some (.int .i64 k) := b2.cell rfl
  have c2 : w.cell? ⟨p, 0, none⟩ = some v := b2.cell rfl
  have hr := Held.bytes (l1 := [_, _]) h1
  obtain ⟨A, c, rfl, hc, hm⟩ := Held.form (l1 := [_, _]) h1
  obtain ⟨bb, off, rfl, -, hcell⟩ := rd_at hr (k := 0) (by cases b with | nil => exact absurd rfl hb | cons x l => simp)
  refine ⟨p, bb, off, c, ⟨c1, c2, c3, hc, hm, fun i hi => hcell i hi, b2.frozen 1⟩, fun n k' => ?_⟩
  have h2 := ((h1.drewN n).pull1.store (l1 := []) 1 (.int .i64 k')).push1
  refine ⟨h2.cur_shut, ?_⟩
  have d1 := h2.blk0
  have d2 := h2.pull1.blk0
  have hr2 := Held.bytes (l1 := [_, _]) h2
  obtain ⟨bb2, off2, e2, -, hcell2⟩ := rd_at hr2 (k := 0) (by cases b with | nil => exact absurd rfl hb | cons x l => simp)
  injection e2 with e3
  injection e3 with e4 e5
  subst e4 e5
  exact ⟨d1.cell rfl, d2.cell rfl, d2.cell rfl, hc, hm, fun i hi => hcell2 i hi, d2.frozen 1⟩

set_option maxRecDepth 100000 in
theorem cbyte_held {w0 w : World} {B : List Res} {q k : Nat} {b : List UInt8} (h : Held w0 w (rCur q b k :: B)) (hk : k < b.length) :
    Calls Tryz.prog 106 #[.pointer (some ⟨q, 0, none⟩)] w fun e w' => e = .returned (.tuple #[.int .i64 b[k].toNat, .int .i64 0]) ∧ Held w0 w' (rCur q b (k + 1) :: B) := by
  obtain ⟨p, bb, off, c, hs, hback⟩ := h.cur_seen2 (by intro e; rw [e] at hk; simp at hk)
  obtain ⟨hq, h0, h1, hc, hm, hcell, hfr⟩ := id hs
  have HM := hid (cmade_any w q p hq)
  have HL := hid (cleft_any w p _ b.length c k h0 h1 (by omega) (by omega))
  have HH := hid hback
  have hn1 : ¬ (((b.length - k : Nat) : Int) = 0) := by omega
  have HC := hid (fun (w2 : World) (hs2 : CurSeen w2 q p bb off c b (k + 1)) => And.intro hs2.hq (And.intro hs2.h0 (And.intro hs2.h1 (hs2.cell k hk))))
  have HN := hid (And.intro hc (And.intro hm hk))
  generalize b[k] = x at *
  obtain ⟨n, hn⟩ : ∃ n, n = b.length := ⟨_, rfl⟩
  rw [← hn] at h0 HC HN hn1 HL
  clear h hs hback hcell hn
  go_enter Tryz.func106, Tryz.ntmps106
  go_wp2_with (first
    | (go_at_call 158; refine HM.out.mono ?_; rintro e w' ⟨rfl, rfl⟩)
    | (go_at_call 159; refine HL.out.mono ?_; rintro e w' ⟨rfl, k1, rfl⟩))
  have hh := HH.out k1 (k + 1)
  rw [show ((k + 1 : Nat) : Int) = (k : Int) + 1 by omega] at hh
  obtain ⟨g2, hs2⟩ := hh
  have G2 := hid g2
  obtain ⟨e0, e1, e2, e3⟩ := HC.out _ hs2
  rw [show ((k + 1 : Nat) : Int) = (k : Int) + 1 by omega] at e2
  clear g2 hs2 HH HC
  have hw1 : IntKind.i64.wrap ((k : Int) + 1 - 1) = (k : Int) := by have := HN.out; rw [IntKind.wrap_i64]; omega
  have hi0 : (0 : Int) ≤ (k : Int) := by omega
  have hx : x.toNat < 256 := x.toNat_lt
  have hx2 : wrap64 (x.toNat : Int) = (x.toNat : Int) := by unfold wrap64; omega
  have hi1 : (k : Int) < (n : Int) := by have := HN.out; omega
  go_quiet (fail)
  go_wp2_with fail
  go_ret2
  exact ⟨rfl, G2.out.drewN _⟩

set_option maxRecDepth 100000 in
theorem cend_held {w0 w : World} {B : List Res} {q k : Nat} {b : List UInt8} (h : Held w0 w (rCur q b k :: B)) (hb : b ≠ []) (hk : k = b.length) :
    Calls Tryz.prog 110 #[.pointer (some ⟨q, 0, none⟩)] w fun e w' => e = .returned (.int .i64 0) ∧ Held w0 w' (rCur q b k :: B) := by
  obtain ⟨p, bb, off, c, hs, hback⟩ := h.cur_seen2 hb
  obtain ⟨hq, h0, h1, hc, hm, hcell, hfr⟩ := id hs
  have HM := hid (cmade_any w q p hq)
  have HL := hid (cleft_any w p _ b.length c k h0 h1 (by omega) (by omega))
  rw [show b.length - k = 0 by omega] at HL
  have HH := hid h
  clear h hs hback hcell
  go_enter Tryz.func110, Tryz.ntmps110
  go_wp2_with (first
    | (go_at_call 158; refine HM.out.mono ?_; rintro e w' ⟨rfl, rfl⟩)
    | (go_at_call 159; refine HL.out.mono ?_; rintro e w' ⟨rfl, k1, rfl⟩))
  go_ret
  exact ⟨rfl, HH.out.drewN _⟩

set_option maxRecDepth 100000 in
theorem ctext_held {w0 w : World} {B : List Res} {q k : Nat} {b l r : List UInt8} (h : Held w0 w (rCur q b k :: B)) (hl : l.length < 65536) (hb : b.drop k = numB l.length ++ (l ++ r)) (hne : b ≠ []) (most : Nat) (hml : l.length ≤ most) (hmm : most ≤ 1000000) :
    Calls Tryz.prog 196 #[.pointer (some ⟨q, 0, none⟩), .int .i64 most] w fun e w' => e = .returned (.tuple #[sv l, .int .i64 0]) ∧ Held w0 w' (rCur q b (k + (numB l.length).length + l.length) :: B) := by
  obtain ⟨p, bb, off, c, hs, hback⟩ := h.cur_seen2 hne
  obtain ⟨hq, h0, h1, hc, hm, hcell, hfr⟩ := id hs
  have HP := hid (cpeek_all w hs l.length hl hb)
  have HH := hid hback
  have hlen : (b.drop k).length = (numB l.length).length + (l.length + r.length) := by rw [hb, List.length_append, List.length_append]
  rw [List.length_drop] at hlen
  have hpos : 0 < (numB l.length).length := by rcases numB_forms l.length hl with ⟨-, h2⟩ | ⟨-, -, h2⟩ | ⟨-, h2⟩ <;> rw [h2] <;> simp
  have hd2 : b.drop (k + (numB l.length).length) = l ++ r := by rw [← List.drop_drop, hb, List.drop_left]
  have hat := fun i (hi : i < l.length) => drop_at hd2 hi
  generalize (numB l.length).length = nb at *
  have hle : k + nb + l.length ≤ b.length := by omega
  have HL := hid (fun n => cleft_any (w.drewN n) p _ b.length c k (by simpa using h0) (by simpa using h1) (by omega) (by omega))
  obtain ⟨u, hu⟩ : ∃ u, u = k + nb + l.length := ⟨_, rfl⟩
  obtain ⟨lo, hlo⟩ : ∃ lo, lo = k + nb := ⟨_, rfl⟩
  have HCV := hid (fun (w2 : World) (hs2 : CurSeen w2 q p bb off c b u) => And.intro hs2.hq (And.intro hs2.h0 (And.intro hs2.h1 (show ∀ z, (convert 87 9 (.slice (if c = lo then (some ⟨bb, off, none⟩ : Option Addr) else some ⟨bb, off + lo, none⟩) l.length (c - lo))).run Tryz.prog (w2.drewN z) = .ok (.string ⟨l.toArray⟩) (w2.drewN z) from fun z => by
    by_cases hcl : c = lo
    · rw [if_pos hcl]
      have : l = [] := List.eq_nil_of_length_eq_zero (by omega)
      subst this
      exact run_convert_bytes_back (w2.drewN z) 87 9 5 ⟨bb, off, none⟩ (c - lo) [] Tryz.underlying87 Tryz.underlying5 Tryz.underlying9 (fun j hj => by simp at hj)
    · rw [if_neg hcl]
      refine run_convert_bytes_back (w2.drewN z) 87 9 5 ⟨bb, off + lo, none⟩ (c - lo) l Tryz.underlying87 Tryz.underlying5 Tryz.underlying9 (fun j hj => ?_)
      obtain ⟨hk2, e2⟩ := hat j hj
      have := (hs2.drewN z).cell (k + nb + j) hk2
      rw [e2, ← hlo] at this
      rw [← this]
      congr 1
      unfold Addr.add
      split
      · rename_i e0; subst e0; simp
      · simp [Nat.add_assoc]))))
  have hng : ¬ (((max most 0 : Nat) : Int) < (l.length : Int)) := by omega
  unfold sv
  have hn2 : IntKind.i64.wrap ((u : Int) - (l.length : Int)) = (lo : Int) := by rw [IntKind.wrap_i64]; omega
  have hn3 : ¬ (((b.length - k : Nat) : Int) - (nb : Int) < (l.length : Int)) := by omega
  have hn4 : (0 : Int) ≤ (lo : Int) := by omega
  have hn5 : (lo : Int) ≤ (u : Int) := by omega
  have hn6 : (u : Int) ≤ (c : Int) := by omega
  have hn7 : u - lo = l.length := by omega
  clear h hs hback hb hcell hlen hd2 hat
  rw [← hu]
  generalize l.length = ll at *
  generalize b.length = n at *
  go_enter Tryz.func196, Tryz.ntmps196
  go_wp2_with (first
    | (go_at_call 195; refine HP.out.mono ?_; rintro e w' ⟨rfl, k1, rfl⟩)
    | (go_at_call 159; refine (HL.out _).mono ?_; rintro e w' ⟨rfl, k2, rfl⟩))
  first | rw [show (k : Int) + ((nb : Int) + (ll : Int)) = (u : Int) by omega] | rw [show (k : Int) + (nb : Int) + (ll : Int) = (u : Int) by omega]
  obtain ⟨g2, hs2⟩ := HH.out (k1 + k2) u
  have G2 := hid g2
  obtain ⟨e0, e1, e2, e3⟩ := HCV.out _ hs2
  clear g2 hs2 HH HCV HL HP hq h0 h1 hfr hu hlo hle hng hn3
  generalize (w.drewN (k1 + k2)).setCell ⟨p, 1, none⟩ (.int .i64 (u : Int)) = w2 at *
  go_quiet (fail)
  go_wp2_with fail
  all_goals
    go_ret2
    exact ⟨rfl, G2.out.drewN _⟩
end Go.Proofs.YtdbhccehbjhbpaaGreatDoor

/- kvstore: key, value, commit of a record that a commit wrote. -/
namespace Go.Proofs.YtdbhccehbjhbpaaGreatDoor
open Go.RowKit
open Disk (Dict)
open Slog (numB)
open Kv (It KOp Items told putAll)

section
variable {w0 w : World} {B : List Res} {q k : Nat} {b l r : List UInt8}
set_option maxRecDepth 100000 in
theorem kkey_held (h : Held w0 w (rCur q b k :: B)) (hl : l.length ≤ 128) (hn : l ≠ []) (hb : b.drop k = numB l.length ++ (l ++ r)) :
    Calls Tryz.prog 160 #[.pointer (some ⟨q, 0, none⟩)] w fun e w' => e = .returned (.tuple #[sv l, .bool true]) ∧ Held w0 w' (rCur q b (k + (numB l.length).length + l.length) :: B) := by
  have hne : b ≠ [] := by
    rintro rfl
    have := congrArg List.length hb
    simp at this
    exact hn (List.eq_nil_of_length_eq_zero (by omega))
  have HT := hid (ctext_held h (by omega) hb hne 128 hl (by decide))
  have hz : (l.isEmpty) = false := by cases l with | nil => exact absurd rfl hn | cons _ _ => rfl
  unfold sv at HT ⊢
  clear h hb hne
  go_enter Tryz.func160, Tryz.ntmps160
  go_wp2_with (first
    | (go_at_call 196; refine HT.out.mono ?_; rintro e w1 ⟨rfl, g1⟩; have G1 := hid g1; clear g1 HT))
  all_goals first | exact absurd (by assumption) hn | skip
  go_ret2
  exact ⟨rfl, G1.out⟩
set_option maxRecDepth 100000 in
theorem kvalue_held (h : Held w0 w (rCur q b k :: B)) (gone : Bool) (hl : l.length ≤ 4096) (hg : gone = true → l = []) (hb : b.drop k = told gone l ++ r) :
    Calls Tryz.prog 161 #[.pointer (some ⟨q, 0, none⟩)] w fun e w' => e = .returned (.tuple #[.bool gone, sv l, .bool true]) ∧ Held w0 w' (rCur q b (k + (told gone l).length) :: B) := by
  cases gone with
  | true =>
    obtain rfl := hg rfl
    have ht : told true [] = [1] := rfl
    rw [ht] at hb ⊢
    obtain ⟨hk, e0⟩ := drop_at hb (i := 0) (by simp)
    have HB := cbyte_held h (k := k) hk
    have e1 : b[k] = 1 := e0
    rw [e1] at HB
    have HT := hid HB
    unfold sv
    clear h hb HB e0 e1
    go_enter Tryz.func161, Tryz.ntmps161
    go_wp2_with (first
      | (go_at_call 106; refine HT.out.mono ?_; rintro e w1 ⟨rfl, g1⟩; have G1 := hid g1; clear g1 HT))
    go_ret3
    exact ⟨rfl, G1.out⟩
  | false =>
    have ht : told false l = 0 :: (numB l.length ++ l) := rfl
    rw [ht] at hb ⊢
    obtain ⟨hk, e0⟩ := drop_at hb (i := 0) (by simp)
    have HB := cbyte_held h (k := k) hk
    have e1 : b[k] = 0 := e0
    rw [e1] at HB
    have HT := hid HB
    have hb2 : b.drop (k + 1) = numB l.length ++ (l ++ r) := by
      rw [← List.drop_drop, hb]
      simp
    have hne : b ≠ [] := by rintro rfl; simp at hk
    have HX := hid (fun w1 (g1 : Held w0 w1 (rCur q b (k + 1) :: B)) => ctext_held g1 (by omega) hb2 hne 4096 hl (by decide))
    unfold sv at HX ⊢
    rw [show k + (0 :: (numB l.length ++ l)).length = k + 1 + (numB l.length).length + l.length by simp; omega]
    clear h hb HB e0 e1 hb2 hne
    go_enter Tryz.func161, Tryz.ntmps161
    go_wp2_with (first
      | (go_at_call 106; refine HT.out.mono ?_; rintro e w1 ⟨rfl, g1⟩; have G1 := hid g1; clear g1 HT)
      | (go_at_call 196; refine (HX.out _ G1.out).mono ?_; rintro e w2 ⟨rfl, g2⟩; have G2 := hid g2; clear g2 HX))
    go_ret3
    exact ⟨rfl, G2.out⟩
end
end Go.Proofs.YtdbhccehbjhbpaaGreatDoor

/- kvstore: reading a record that a commit wrote. -/
namespace Go.Proofs.YtdbhccehbjhbpaaGreatDoor
open Go.RowKit
open Disk (Dict)
open Slog (numB)
open Kv (It KOp Items told putAll)

def readCells (v : Nat) (bm : Nat) : Array Value := #[.int .i64 v, .map (some bm), .map none, .string ⟨#[]⟩]
/-- where the k-th op of a record begins. -/
def opAt (v : Nat) (ops : List KOp) (k : Nat) : Nat := 1 + (numB v).length + (numB ops.length).length + ((ops.take k).map KOp.enc).flatten.length
theorem enc_form (v : Nat) (ops : List KOp) : Kv.enc v ops = [1] ++ (numB v ++ (numB ops.length ++ (ops.map KOp.enc).flatten)) := by
  unfold Kv.enc
  simp only [List.append_assoc]
theorem opAt_drop (v : Nat) (ops : List KOp) (k : Nat) : (Kv.enc v ops).drop (opAt v ops k) = ((ops.drop k).map KOp.enc).flatten := by
  have h : (ops.map KOp.enc).flatten = ((ops.take k).map KOp.enc).flatten ++ ((ops.drop k).map KOp.enc).flatten := by
    rw [← List.flatten_append, ← List.map_append, List.take_append_drop]
  rw [enc_form, h]
  unfold opAt
  rw [show [1] ++ (numB v ++ (numB ops.length ++ (((ops.take k).map KOp.enc).flatten ++ ((ops.drop k).map KOp.enc).flatten))) = ([1] ++ numB v ++ numB ops.length ++ ((ops.take k).map KOp.enc).flatten) ++ ((ops.drop k).map KOp.enc).flatten by simp only [List.append_assoc]]
  refine List.drop_left' ?_
  simp only [List.length_append, List.length_cons, List.length_nil]
theorem opAt_succ (v : Nat) {ops : List KOp} {k : Nat} (hk : k < ops.length) : opAt v ops (k + 1) = opAt v ops k + ops[k].enc.length := by
  unfold opAt
  rw [List.take_succ_eq_append_getElem hk, List.map_append, List.flatten_append, List.length_append]
  simp [Nat.add_assoc]
theorem opAt_all (v : Nat) (ops : List KOp) : opAt v ops ops.length = (Kv.enc v ops).length := by
  rw [enc_form]
  unfold opAt
  rw [List.take_length]
  simp only [List.length_append, List.length_cons, List.length_nil]
  omega
theorem enc_ne (v : Nat) (ops : List KOp) : Kv.enc v ops ≠ [] := by rw [enc_form]; simp
theorem putAll_next (v : Nat) (d : Items) {ops : List KOp} {k : Nat} (hk : k < ops.length) : putAll d v (ops.take (k + 1)) = Dict.put (putAll d v (ops.take k)) ops[k].key (ops[k].it v) := by
  unfold putAll
  rw [List.take_succ_eq_append_getElem hk, List.foldl_append]
  rfl
/-- no key of a commit was put ahead of it. -/
theorem putAll_before (v : Nat) {d : Items} {ops : List KOp} (hn : (ops.map (·.key)).Nodup) {k : Nat} (hk : k < ops.length) : Dict.get (putAll d v (ops.take k)) ops[k].key = Dict.get d ops[k].key := by
  refine Kv.putAll_other _ _ fun o ho e => ?_
  obtain ⟨i, hi, rfl⟩ := List.mem_iff_getElem.1 ho
  rw [List.length_take] at hi
  rw [List.getElem_take] at e
  have h2 := List.pairwise_iff_getElem.1 hn i k (by rw [List.length_map]; omega) (by rw [List.length_map]; omega) (by omega)
  simp only [List.getElem_map] at h2
  exact h2 e
/-- what a look-up says of the version. -/
theorem look_at (key : List UInt8) (o : Option It) : ∃ (k' v' : ByteArray) (g' : Bool) (a : Nat), lookV key o = .agg #[.string k', .bool g', .string v', .int .i64 a] ∧ (a = 0 ∨ ∃ x, o = some x ∧ x.at_ = a) := by
  cases o with
  | none => exact ⟨_, _, _, 0, rfl, .inl rfl⟩
  | some x => exact ⟨_, _, _, x.at_, rfl, .inr ⟨x, rfl, rfl⟩⟩

section
variable {w0 w : World} {B : List Res}
set_option maxRecDepth 100000 in
set_option maxHeartbeats 1000000 in
theorem rcommit_held {rb q bm v : Nat} {d : Items} {ops : List KOp} (h : Held w0 w (rBlk rb 122 (readCells v bm) :: rItems bm d :: rCur q (Kv.enc (v + 1) ops) 1 :: B)) (hd : Kv.ItemsOk d v) (hv : v ≤ 245) (hc : Kv.check ops = 0) :
    Calls Tryz.prog 107 #[.pointer (some ⟨rb, 0, none⟩), .pointer (some ⟨q, 0, none⟩)] w fun e w' => e = .returned (.bool true) ∧ Held w0 w' (rBlk rb 122 (readCells (v + 1) bm) :: rItems bm (putAll d (v + 1) ops) :: B) := by
  obtain ⟨hc1, hc2, hok⟩ := Kv.check_zero hc
  obtain ⟨u, hu⟩ : ∃ u, u = v + 1 := ⟨_, rfl⟩
  rw [← hu] at h ⊢
  have hne := enc_ne u ops
  have hb1 : (Kv.enc u ops).drop 1 = numB u ++ (numB ops.length ++ (ops.map KOp.enc).flatten) := by rw [enc_form]; rfl
  have hb2 : (Kv.enc u ops).drop (1 + (numB u).length) = numB ops.length ++ (ops.map KOp.enc).flatten := by rw [← List.drop_drop, hb1, List.drop_left]
  have HEN := hid (opAt_all u ops)
  have HDR := hid (opAt_drop u ops)
  have HOP := hid (fun (k : Nat) (hk : k < ops.length) => opAt_succ u hk)
  have hp0 : 1 + (numB u).length + (numB ops.length).length = opAt u ops 0 := by unfold opAt; simp
  generalize Kv.enc u ops = eb at *
  generalize opAt u ops = P at *
  have H1 := hid (cnum_held h.pull2 u (by omega) hb1 hne)
  have H2 := hid (fun w1 B1 (g1 : Held w0 w1 (rCur q eb (1 + (numB u).length) :: B1)) => cnum_held g1 ops.length (by omega) hb2 hne)
  rw [hp0] at H2
  have x0 : w.cell? ⟨rb, 0, none⟩ = some (.int .i64 v) := h.blk0.cell rfl
  have HX := hid (And.intro hd (And.intro hok hne))
  have HU := hid hu
  obtain ⟨n, hn⟩ : ∃ n, n = ops.length := ⟨_, rfl⟩
  have HN := hid hn
  rw [← hn] at hc1 hc2 HEN H2
  generalize 1 + (numB u).length = pn at *
  have e1 : ((u : Int) != (v : Int) + 1) = false := by rw [bne_eq_false_iff_eq]; omega
  have e2 : ¬ ((1099511627776 : Int) < (u : Int)) := by omega
  have e3 : ¬ ((n : Int) < 1) := by omega
  have e4 : ¬ ((256 : Int) < (n : Int)) := by omega
  clear h hne hb1 hb2 hd hok hc hn hu hp0
  go_enter Tryz.func107, Tryz.ntmps107
  go_wp2_with fail
  refine H1.out.mono ?_
  rintro e w1 ⟨rfl, g1⟩
  have G1 := hid g1
  clear g1 H1
  go_wp2_with fail
  refine (H2.out _ _ G1.out).mono ?_
  rintro e w2 ⟨rfl, g2⟩
  have y0 : w2.cell? ⟨rb, 0, none⟩ = some (.int .i64 v) := g2.pull1.blk0.cell rfl
  have G2 := hid g2.pull1
  clear g2 H2 G1
  go_wp2_with fail
  go_loopw [52] (fun iv wr => ∃ k : Nat, k ≤ n ∧ iv = .int .i64 k ∧ Held w0 wr (rCur q eb (P k) :: rBlk rb 122 (readCells v bm) :: rItems bm (putAll d u (ops.take k)) :: B)) (fun iv _ => n - (intOf iv).toNat)
  case atStart => exact ⟨0, Nat.zero_le _, rfl, G2.out.pull1⟩
  case round =>
    clear G2 x0 y0 e1 e2
    obtain ⟨k, hk, rfl, hh⟩ := hrel
    by_cases hlt : k < n
    · have hlk : k < ops.length := by rw [← HN.out]; exact hlt
      obtain ⟨hd, hok, hne⟩ := HX.out
      obtain ⟨y1, y2, y3, y4, -⟩ := hok.each _ (List.getElem_mem hlk)
      have hdr := HDR.out k
      rw [List.drop_eq_getElem_cons hlk, List.map_cons, List.flatten_cons] at hdr
      have hbf := putAll_before u (d := d) hok.once hlk
      have HPN := hid (putAll_next u d hlk)
      have hop := HOP.out k hlk
      have hat : ∀ x, Dict.get d ops[k].key = some x → x.at_ ≤ v := fun x hx => (hd.each _ x hx).2.2.2.2.1
      generalize ops[k] = o at *
      obtain ⟨key, gone, value⟩ := o
      generalize ((ops.drop (k + 1)).map KOp.enc).flatten = rest at *
      unfold KOp.enc at hdr hop
      dsimp only at y1 y2 y3 y4 hdr hop hbf hat
      have hd1 : eb.drop (P k) = numB key.length ++ (key ++ (told gone value ++ rest)) := by rw [hdr]; simp only [List.append_assoc]
      have hd2 : eb.drop (P k + (numB key.length).length + key.length) = told gone value ++ rest := by
        rw [← List.drop_drop, ← List.drop_drop, hd1, List.drop_left, List.drop_left]
      have hop2 : P k + (numB key.length).length + key.length + (told gone value).length = P (k + 1) := by rw [hop]; simp only [List.length_append]; omega
      have HK := hid (kkey_held hh y2 y1 hd1)
      have HV := hid (fun w1 B1 (g1 : Held w0 w1 (rCur q eb (P k + (numB key.length).length + key.length) :: B1)) => kvalue_held g1 gone y3 y4 hd2)
      rw [hop2] at HV
      obtain ⟨lk, lv, lg, la, hlook, hla⟩ := look_at key (Dict.get d key)
      have hne2 : ((la : Int) == (u : Int)) = false := by
        rw [beq_eq_false_iff_ne]
        have := HU.out
        rcases hla with rfl | ⟨x, hx, rfl⟩
        · omega
        · have := hat x hx
          omega
      have HLK := hid (fun w1 R1 R2 (g1 : Held w0 w1 (R1 :: R2 :: rItems bm (putAll d u (ops.take k)) :: B)) => Held.items_lookup (A := [R1, R2]) g1 (n := key) (by omega))
      rw [hbf, hlook] at HLK
      have HPU := hid (fun w1 R1 R2 (g1 : Held w0 w1 (R1 :: R2 :: rItems bm (putAll d u (ops.take k)) :: B)) => Held.items_put (A := [R1, R2]) g1 (n := key) (by omega) (KOp.it ⟨key, gone, value⟩ u))
      have f3 := it_at
      have hltn : (k : Int) < (n : Int) := by omega
      unfold sv at HK HV HLK HPU
      unfold itemV KOp.it sv at HPU
      dsimp only at HPU
      clear hh hdr hop hbf hat hd1 hd2 hop2 hd hok hne hlook hla
      go_wp2_with fail
      refine HK.out.mono ?_
      rintro e w3 ⟨rfl, g3⟩
      have G3 := hid g3
      clear g3 HK
      go_wp2_with fail
      refine (HV.out _ _ G3.out).mono ?_
      rintro e w4 ⟨rfl, g4⟩
      have l1 := HLK.out _ _ _ g4
      have z1 : w4.cell? ⟨rb, 1, none⟩ = some (.map (some bm)) := g4.pull1.blk0.cell rfl
      obtain ⟨w5, hr5, g5⟩ := HPU.out _ _ _ g4
      have G5 := hid g5
      clear g4 g5 HV HLK HPU G3
      go_wp2_with fail
      refine ⟨⟨k + 1, by omega, by congr 1, ?_⟩, by show n - ((k : Int) + 1).toNat < n - (k : Int).toNat; omega⟩
      rw [HPN.out]
      exact G5.out
    · have hltn : ¬ ((k : Int) < (n : Int)) := by omega
      have hkn : k = n := by omega
      subst hkn
      rw [HEN.out, HN.out, List.take_length] at hh
      have w0c := hh.pull1.blk0
      have f0 := w0c.frozen 0
      have c0 : wr.cell? ⟨rb, 0, none⟩ = some (.int .i64 v) := w0c.cell rfl
      have g1 := Held.store (l1 := []) hh.pull1 0 (.int .i64 u)
      have d1 := g1.blk0
      have f2 := d1.frozen 2
      have c2 : (wr.setCell ⟨rb, 0, none⟩ (.int .i64 u)).cell? ⟨rb, 2, none⟩ = some (.map none) := d1.cell rfl
      have g2 := Held.store (l1 := []) g1 2 (.map none)
      have hne := HX.out.2.2
      have HE := hid (cend_held g2.pull1 hne rfl)
      clear hh w0c g1 d1 g2 hne
      go_wp2_with (first
        | (go_at_call 110; refine HE.out.mono ?_; rintro e w7 ⟨rfl, g7⟩; have G7 := hid g7; clear g7 HE))
      go_ret
      exact ⟨rfl, G7.out.drop0⟩
end
end Go.Proofs.YtdbhccehbjhbpaaGreatDoor

/- kvstore: reading a log of commits: record, is, begin. -/
namespace Go.Proofs.YtdbhccehbjhbpaaGreatDoor
open Go.RowKit
open Disk (Dict Dk)
open Slog (numB Seg recsOf Chain)
open Kv (It KOp Items told putAll)

section
variable {w0 w : World} {B : List Res}
set_option maxRecDepth 100000 in
set_option maxHeartbeats 1000000 in
theorem record_held {rb bm v : Nat} {d : Items} {ops : List KOp} {A : Option Addr} {n c : Nat} (h : Held w0 w (rBlk rb 122 (readCells v bm) :: rItems bm d :: B)) (S : Nat → Prop) (hr : Rd S w (.slice A n c) (bytesV (Kv.enc (v + 1) ops))) (hl : (Kv.enc (v + 1) ops).length ≤ 65535) (hd : Kv.ItemsOk d v) (hv : v ≤ 245) (hc : Kv.check ops = 0) :
    Calls Tryz.prog 63 #[.pointer (some ⟨rb, 0, none⟩), .slice A n c] w fun e w' => e = .returned (.bool true) ∧ Held w0 w' (rBlk rb 122 (readCells (v + 1) bm) :: rItems bm (putAll d (v + 1) ops) :: B) := by
  have HF := hid (cfrom_held h S _ _ hr (by omega))
  have hpos : 0 < (Kv.enc (v + 1) ops).length := List.length_pos_iff.2 (enc_ne _ _)
  have e0 : (Kv.enc (v + 1) ops)[0] = 1 := by simp [enc_form]
  have HB := hid (fun w1 q B1 (g1 : Held w0 w1 (rCur q (Kv.enc (v + 1) ops) 0 :: B1)) => cbyte_held g1 hpos)
  rw [e0] at HB
  have HC := hid (fun w1 q (g1 : Held w0 w1 (rBlk rb 122 (readCells v bm) :: rItems bm d :: rCur q (Kv.enc (v + 1) ops) 1 :: B)) => rcommit_held g1 hd hv hc)
  rw [Nat.zero_add] at HB
  generalize Kv.enc (v + 1) ops = eb at *
  clear h hr hl hd hc hpos e0
  go_enter Tryz.func63, Tryz.ntmps63
  go_wp2_with fail
  refine HF.out.mono ?_
  rintro e w1 ⟨q, rfl, g1⟩
  have G1 := hid g1
  clear g1 HF
  go_wp2_with fail
  refine (HB.out _ _ _ G1.out).mono ?_
  rintro e w2 ⟨rfl, g2⟩
  have G2 := hid g2.pull1.pull2
  clear g2 HB G1
  go_wp2_with fail
  refine (HC.out _ _ G2.out.pull1).mono ?_
  rintro e w3 ⟨rfl, g3⟩
  have G3 := hid g3
  clear g3 HC G2
  go_wp2_with fail
  go_ret
  exact ⟨rfl, G3.out⟩
end

/-- a record that begins with 1 is of no other kind. -/
theorem is_one {S : Nat → Prop} (w : World) (A : Option Addr) (n c : Nat) (r : List UInt8) (h : Rd S w (.slice A n c) (bytesV (1 :: r))) (kind : Nat) (hk : kind ≠ 1) :
    Calls Tryz.prog 104 #[.slice A n c, .int .u8 kind] w fun e w' => e = .returned (.bool false) ∧ w' = w := by
  obtain ⟨bb, off, rfl, -, hcell⟩ := rd_at h (k := 0) (by simp)
  have c0 : w.cell? ⟨bb, off, none⟩ = some (.int .u8 1) := hcell 0 (by simp)
  have hn : n = r.length + 1 := by obtain ⟨A', c', hv, -⟩ := h; injection hv with e1 e2 e3; rw [e2, bytesV_length]; rfl
  have h1 : (0 : Int) < (n : Int) := by omega
  have h2 : ((1 : Int) == (kind : Int)) = false := by rw [beq_eq_false_iff_ne]; omega
  clear h hcell hn
  go_enter Tryz.func104, Tryz.ntmps104
  go_wp2_with fail
  go_ret
  exact ⟨rfl, rfl⟩

set_option maxRecDepth 100000 in
theorem begin_commits {w0 w : World} {B : List Res} {v : Value} {rs : List (List UInt8)} (h : Held w0 w (rRecs v rs :: B)) (hrs : ∀ r ∈ rs, ∃ t, r = 1 :: t) (hl : rs.length ≤ 1000) :
    Calls Tryz.prog 61 #[v] w fun e w' => e = .returned (.int .i64 (-1)) ∧ w' = w := by
  obtain ⟨A, c, rfl, hc, hm⟩ := h.recs_form
  have HH := hid h
  have HR := hid hrs
  obtain ⟨n, hn⟩ : ∃ n, n = rs.length := ⟨_, rfl⟩
  have HN := hid hn
  rw [← hn] at hl hc HH ⊢
  clear h hrs hn
  go_enter Tryz.func61, Tryz.ntmps61
  go_wp2_with fail
  go_loopw [3] (fun iv wr => ∃ k : Nat, k ≤ n ∧ iv = .int .i64 ((k : Int) - 1) ∧ wr = w) (fun iv _ => (intOf iv + 1).toNat)
  case atStart => exact ⟨n, Nat.le_refl _, rfl, rfl⟩
  case round =>
    obtain ⟨k, hk, rfl, rfl⟩ := hrel
    by_cases h0 : 0 < k
    · obtain ⟨j, rfl⟩ : ∃ j, k = j + 1 := ⟨k - 1, by omega⟩
      have hj : j < rs.length := by rw [← HN.out]; omega
      obtain ⟨bb, off, c', u, hv, hu, hrd⟩ := HH.out.recs_get hj
      injection hv with e1 e2 e3
      subst e1
      clear e2 e3
      obtain ⟨t, ht⟩ := HR.out _ (List.getElem_mem hj)
      rw [ht] at hrd
      obtain ⟨A2, c2, rfl, -, -⟩ := id hrd
      rw [bytesV_length] at hu hrd
      have HI := hid (is_one wr A2 _ c2 t hrd 3 (by decide))
      generalize (1 :: t : List UInt8).length = m at *
      have hj0 : (0 : Int) ≤ (j : Int) := by omega
      have hj1 : (j : Int) < (n : Int) := by have := HN.out; omega
      rw [show ((j + 1 : Nat) : Int) - 1 = (j : Int) by omega]
      clear hrd ht
      go_wp2_with fail
      refine HI.out.mono ?_
      rintro e w1 ⟨rfl, rfl⟩
      go_wp2_with fail
      exact ⟨⟨j, by omega, by first | rfl | trivial, by first | rfl | trivial⟩, by show ((j : Int) - 1 + 1).toNat < ((j : Int) + 1).toNat; omega⟩
    · have hk0 : k = 0 := by omega
      subst hk0
      go_wp2_with fail
      refine wp_loop_rounds 1 ?_
      rw [rounds_succ]
      go_wp2_with fail
      go_ret
      exact ⟨rfl, rfl⟩
end Go.Proofs.YtdbhccehbjhbpaaGreatDoor

/- kvstore: Open over a log of commits. -/
namespace Go.Proofs.YtdbhccehbjhbpaaGreatDoor
open Go.RowKit
open Disk (Dict Dk)
open Slog (Seg recsOf Chain)
open Kv (It KOp Items putAll)

set_option maxRecDepth 100000 in
set_option maxHeartbeats 2000000 in
theorem kopen_recs {w0 w : World} {B : List Res} {p : Nat} {d : Dk} {segs : List Seg} {n : Nat} {l : List (List KOp)} (h : Held w0 w (rDisk p d :: B)) (hL : Slog.Left d segs) (hc : Chain 1 segs n) (hpos : ∀ ls s, segs = ls ++ [s] → ∀ t ∈ ls, 0 < t.2.length) (hsm : ∀ s ∈ segs, ∀ r ∈ s.2, r.length ≤ 65535) (hn : n ≤ 98) (hpl : d.pending.length ≤ 1000)
    (hr : recsOf segs = Kv.encs 0 l) (hck : ∀ ops ∈ l, Kv.check ops = 0) :
    Calls Tryz.prog 27 #[.pointer (some ⟨p, 0, none⟩)] w fun e w' => ∃ sp, e = .returned (.tuple #[.pointer (some ⟨sp, 0, none⟩), .int .i64 0]) ∧ Held w0 w' (rKv sp p ⟨Slog.opened d segs, ⟨segs, 1, n, n⟩, Kv.plays [] 0 l, l.length, l.length⟩ :: B) := by
  have HO := hid (open_held h hL hc ⟨Nat.le_refl _, fun _ => rfl⟩ hpos hsm hn hpl)
  have hgd : Slog.Good (Slog.opened d segs) ⟨segs, 1, n, n⟩ := hL.open_ hc ⟨Nat.le_refl _, fun _ => rfl⟩ hpos ⟨by omega, hsm⟩
  have hcnt := Slog.chain_count hc
  have hll : l.length = (recsOf segs).length := by rw [hr, Kv.encs_length]
  have HRD := hid (fun w1 q B1 (g1 : Held w0 w1 (rLog q p segs n :: B1)) => lread_good (l := ⟨segs, 1, n, n⟩) g1 hgd 0)
  have HF := hid (fun w1 q B1 (g1 : Held w0 w1 (rLog q p segs n :: B1)) => lfirst_good (l := ⟨segs, 1, n, n⟩) g1 hgd)
  have hrn : readFrom 1 (recsOf segs) 0 = Kv.encs 0 l := by rw [hr]; rfl
  dsimp only at HRD HF
  rw [hrn] at HRD
  have hone : ∀ r ∈ Kv.encs 0 l, ∃ t, r = 1 :: t := by
    intro r hm
    obtain ⟨i, hi, rfl⟩ := List.mem_iff_getElem.1 hm
    rw [Kv.encs_length] at hi
    rw [Kv.encs_get hi, enc_form]
    exact ⟨_, rfl⟩
  have hsz : ∀ r ∈ Kv.encs 0 l, r.length ≤ 65535 := by
    intro r hm
    rw [← hr] at hm
    unfold recsOf at hm
    obtain ⟨a, ha, hm⟩ := List.mem_flatten.1 hm
    obtain ⟨s, hs, rfl⟩ := List.mem_map.1 ha
    exact hsm s hs r hm
  have HG := hid (fun (k : Nat) (hk : k < l.length) => Kv.encs_get (v := 0) hk)
  have hel : (Kv.encs 0 l).length = l.length := Kv.encs_length _ _
  have HIT := hid (fun k (hk : k ≤ l.length) => show Kv.ItemsOk (Kv.plays [] 0 (l.take k)) k from by
    have := Kv.plays_ok (l := l.take k) Kv.ItemsOk.nil fun ops ho => hck ops (List.mem_of_mem_take ho)
    rw [Nat.zero_add, List.length_take, Nat.min_eq_left hk] at this
    exact this)
  have HCK := hid hck
  obtain ⟨m, hm⟩ : ∃ m, m = l.length := ⟨_, rfl⟩
  have HM := hid hm
  have hm97 : m ≤ 97 := by omega
  obtain ⟨rs, hrs⟩ : ∃ rs, rs = Kv.encs 0 l := ⟨_, rfl⟩
  have HRS := hid hrs
  rw [← hrs] at HRD hone hsz hel
  rw [← hm] at hel
  have HBG := hid (fun w1 v B1 (g1 : Held w0 w1 (rRecs v rs :: B1)) => begin_commits g1 hone (by omega))
  have HSZ := hid hsz
  have HEL := hid hel
  have hmm := @run_makeMap Tryz.prog
  clear h hL hc hpos hsm hn hpl hr hck hgd hcnt hll hrn hone hsz hel hm hrs
  go_enter Tryz.func27, Tryz.ntmps27
  go_wp2_with fail
  refine HO.out.mono ?_
  rintro e w1 ⟨q, rfl, g1⟩
  have G1 := hid g1
  clear g1 HO
  go_wp2_with fail
  refine (HRD.out _ _ _ G1.out).mono ?_
  rintro e w2 ⟨v, rfl, g2⟩
  have HB2 := hid (HBG.out _ _ _ g2)
  obtain ⟨rA, rc, rfl, hrc1, hrc2⟩ := g2.recs_form
  have G2 := hid g2
  clear g2 HRD G1 HBG
  go_wp2_with fail
  refine HB2.out.mono ?_
  rintro e w3 ⟨rfl, rfl⟩
  clear HB2
  go_wp2_with fail
  refine (HF.out _ _ _ G2.out.pull1).mono ?_
  rintro e w3 ⟨rfl, g3⟩
  have G3 := hid g3
  clear g3 HF G2
  have hmx : (max (-1 : Int) 0) = 0 := by decide
  go_wp2_with fail
  have g5 := G3.out.items_made.block 122 (readCells 0 w3.heap.size)
  rw [alloc_size] at g5
  rw [show (w3.alloc (.map #[] 0)).alloc (.cells #[.int .i64 0, .map (some w3.heap.size), .map none, .string ⟨#[]⟩] 122) = (w3.alloc (.map #[] 0)).alloc (.cells (readCells 0 w3.heap.size) 122) from rfl]
  generalize (w3.alloc (.map #[] 0)).alloc (.cells (readCells 0 w3.heap.size) 122) = w5 at *
  generalize w3.heap.size = bm at *
  rw [HEL.out] at hrc1 g5 ⊢
  have G5 := hid g5.pull3
  clear g5 G3 hmm
  go_loopw [38] (fun iv wr => ∃ k : Nat, k ≤ m ∧ iv = .int .i64 k ∧ Held w0 wr (rRecs (.slice rA m rc) rs :: rBlk (bm + 1) 122 (readCells k bm) :: rItems bm (Kv.plays [] 0 (l.take k)) :: rLog q p segs n :: rDisk p (Slog.opened d segs) :: B)) (fun iv _ => m - (intOf iv).toNat)
  case atStart => exact ⟨0, Nat.zero_le _, rfl, G5.out⟩
  case round =>
    clear G5
    obtain ⟨k, hk, rfl, hh⟩ := hrel
    by_cases hlt : k < m
    · have hlr : k < rs.length := by rw [HEL.out]; exact hlt
      have hlk : k < l.length := by rw [← HM.out]; exact hlt
      obtain ⟨bb, off, c', u, hv, hu, hrd⟩ := hh.recs_get hlr
      injection hv with e1 e2 e3
      subst e1
      clear e2 e3
      have hge := HG.out k hlk
      have hsz := HSZ.out _ (List.getElem_mem hlr)
      have hrk : rs[k] = Kv.enc (k + 1) l[k] := by
        have : rs[k]'hlr = (Kv.encs 0 l)[k]'(by rw [Kv.encs_length]; exact hlk) := by
          congr 1
          first | done | exact HRS.out
        rw [this, hge, Nat.zero_add]
      rw [hrk] at hrd hsz
      obtain ⟨A2, c2, rfl, -, -⟩ := id hrd
      have HPT := hid (Kv.plays_take (l := l) hlk [])
      have HRC := hid (record_held hh.pull2.pull2 (fun _ => True) hrd hsz (HIT.out k (by omega)) (by omega) (HCK.out _ (List.getElem_mem hlk)))
      rw [bytesV_length] at hu HRC
      generalize (Kv.enc (k + 1) l[k]).length = bl at *
      have hltn : (k : Int) < (m : Int) := by omega
      have hk0 : (0 : Int) ≤ (k : Int) := by omega
      clear hh hrd hrk hge hsz
      go_wp2_with fail
      refine HRC.out.mono ?_
      rintro e w6 ⟨rfl, g6⟩
      have G6 := hid g6.pull2
      clear g6 HRC
      go_wp2_with fail
      refine ⟨⟨k + 1, by omega, by congr 1, ?_⟩, by show m - ((k : Int) + 1).toNat < m - (k : Int).toNat; omega⟩
      rw [HPT.out]
      exact G6.out
    · have hltn : ¬ ((k : Int) < (m : Int)) := by omega
      have hkm : k = m := by omega
      subst hkm
      rw [List.take_of_length_le (by rw [← HM.out]; exact Nat.le_refl _)] at hh
      have g7 := hh.pull1
      have x0 : wr.cell? ⟨bm + 1, 0, none⟩ = some (.int .i64 k) := g7.blk0.cell rfl
      have x1 : wr.cell? ⟨bm + 1, 1, none⟩ = some (.map (some bm)) := g7.blk0.cell rfl
      have G7 := hid g7
      clear hh g7
      go_wp2_with fail
      go_still_tail 13, (by kernel_rfl)
      go_wp2_with fail
      go_ret2
      rw [← HM.out]
      have g8 := ((G7.out.drop0.drop0).block 73 (storeCells q bm k k)).drew
      exact ⟨_, rfl, Held.kshut ⟨Slog.opened d segs, ⟨segs, 1, n, n⟩, Kv.plays [] 0 l, k, k⟩ g8⟩
end Go.Proofs.YtdbhccehbjhbpaaGreatDoor

/- kvstore: Sync. -/
namespace Go.Proofs.YtdbhccehbjhbpaaGreatDoor
open Go.RowKit Go.MuLone
open Disk (Dict Dk)
open Slog (Seg recsOf Lg)
open Kv (It KOp Items)

/-- what Sync leaves. -/
def Kv.St.sync (s : Kv.St) : Kv.St := ⟨(Slog.sync s.dk s.lg).1, (Slog.sync s.dk s.lg).2.1, s.items, s.version, s.version⟩

section
variable {w0 w : World} {B : List Res} {sp p : Nat}
set_option maxRecDepth 100000 in
set_option maxHeartbeats 2000000 in
theorem ksync_held {nm : Nat} (hnm : NameOk w0 nm) {s : Kv.St} (h : Held w0 w (rKv sp p s :: B)) (hg : Kv.Good s) (hn : s.lg.next < nm) :
    Calls Tryz.prog 26 #[.pointer (some ⟨sp, 0, none⟩)] w fun e w' => e = .returned (.int .i64 0) ∧ Held w0 w' (rKv sp p s.sync :: B) := by
  obtain ⟨q, bm, h1⟩ := h.kopen
  obtain ⟨c0, c2, c3, c4, c5, f0⟩ := h1.blk0.kv
  have HM := hid (kmade_any w sp q c2)
  have g1 := h1.lock
  have c2' : _ := g1.blk0.locked
  obtain ⟨d0, d2, d3, d4, d5, e0⟩ := c2'
  have HS := hid (lsync_heldN hnm (g1.pull3.pull3) hg.log hn)
  clear h h1 c2 c3 c4 c5 g1 hg hnm hn
  go_enter_defers Tryz.func26, Tryz.ntmps26
  go_wp2_with (first
    | (go_at_call 32; refine HM.out.mono ?_; rintro e w' ⟨rfl, rfl⟩)
    | (go_at_call 33; refine (lock_free Tryz.muLib ⟨sp, 0, none⟩ _ c0 f0).mono ?_; rintro e w' ⟨rfl, rfl⟩))
  refine HS.out.mono ?_
  rintro e w2 ⟨rfl, g2⟩
  have g3 := g2.pull2.pull3.pull1
  obtain ⟨z0, z2, z3, z4, z5, zf⟩ := g3.blk0.locked
  have zf5 := zf 5
  have G3 := hid g3
  clear g2 g3
  go_wp2_with fail
  have g9 : Held w0 (w2.setCell ⟨sp, 5, none⟩ (.int .i64 s.version)) (rBlk sp 73 (lockCells q bm s.version s.version) :: _) := Held.store (l1 := []) G3.out 5 (.int .i64 s.version)
  have L2 := g9.blk0.locked
  refine leaves_cons (f := 34) (args := #[.pointer (some ⟨sp, 0, none⟩)]) (by simp) (by simp [go_sem]) ?_
  refine (unlock_deferred Tryz.muLib ⟨sp, 0, none⟩ .returning _ L2.c0 (L2.f0 0)).mono ?_
  rintro e u' w'' ⟨rfl, rfl, rfl⟩
  refine ⟨_, results_tmp rfl _ _ _, ?_⟩
  exact ⟨rfl, Held.kshut s.sync g9.unlock⟩
end
end Go.Proofs.YtdbhccehbjhbpaaGreatDoor

/- kvstore's laws: KvstoreFull. -/
namespace Go.Proofs.YtdbhccehbjhbpaaGreatDoor
open Go.RowKit
open Disk (Dk Dict)
open Slog (Seg recsOf Lg)
open Kv (It KOp Items)

theorem u3000_mod (k : Int) : ∃ n : Nat, wrap64 ((IntKind.u64.wrap k).tmod 3000) = n ∧ n < 3000 := by
  have h0 : IntKind.u64.wrap k = k % 18446744073709551616 := by unfold IntKind.wrap IntKind.bits IntKind.signed; simp
  refine ⟨(k % 18446744073709551616 % 3000).toNat, ?_, by omega⟩
  rw [h0, Int.tmod_eq_emod_of_nonneg (by omega)]
  unfold wrap64
  omega
/-- what holds of the two stores behind k calls. -/
structure FullAt (s t : Kv.St) (k : Nat) : Prop where
  gs : Kv.Good s
  gt : Kv.Good t
  tw : Kv.Twin s t
  rec_ : ∃ l, Kv.Rec s l
  next : s.lg.next ≤ k + 1
  used : Disk.used t.dk.held ≤ 65600 * k
  room : t.dk.room = 16777216
theorem full_begin {m : Nat} (hm : m ≤ 16777216) : FullAt (kst m) (kst 16777216) 0 :=
  ⟨kst_good hm, kst_good (Nat.le_refl _), ⟨rfl, rfl, rfl, rfl⟩, ⟨[], kst_rec m⟩, Nat.le_refl _, Nat.le_refl _, rfl⟩
theorem FullAt.step {s t : Kv.St} {k : Nat} (h : FullAt s t k) (hk : k < 60) (ops : List KOp) :
    ((s.commit ops).2.2 = 7 → (s.commit ops).2.1 = 0 ∧ FullAt (s.commit ops).1 t (k + 1)) ∧ ((s.commit ops).2.2 ≠ 7 → (s.commit ops).2 = (t.commit ops).2 ∧ FullAt (s.commit ops).1 (t.commit ops).1 (k + 1)) := by
  have hn := h.next
  have hu := h.used
  have ht : t.lg.next ≤ 246 := by rw [← h.tw.next]; omega
  have hs := h.gs.commit (by omega) ops
  have htg := h.gt.commit ht ops
  obtain ⟨h1, h2⟩ := h.tw.commit h.gs h.gt (by omega) (by rw [h.room]; omega) ops
  obtain ⟨l, hl⟩ := h.rec_
  have hr := hl.commit h.gs (by omega) ops
  have hus := Kv.St.commit_used h.gt ht ops
  refine ⟨fun h7 => ?_, fun h7 => ?_⟩
  · obtain ⟨e1, e2⟩ := h1 h7
    exact ⟨e1, hs.1, h.gt, e2, hr, by omega, by omega, h.room⟩
  · obtain ⟨e1, e2⟩ := h2 h7
    exact ⟨e1, hs.1, htg.1, e2, hr, by omega, by omega, by rw [hus.2]; exact h.room⟩

/-- opening again what a sync left. -/
theorem kreopen_held {w0 w : World} {B : List Res} {sp p : Nat} {s : Kv.St} {l : List (List KOp)} (h : Held w0 w (rKv sp p s.sync :: B)) (hg : Kv.Good s) (hr : Kv.Rec s l) (hn : s.lg.next ≤ 98) :
    Calls Tryz.prog 27 #[.pointer (some ⟨p, 0, none⟩)] w fun e w' => ∃ sp' s', e = .returned (.tuple #[.pointer (some ⟨sp', 0, none⟩), .int .i64 0]) ∧ s'.items = s.items ∧ s'.version = s.version ∧ Held w0 w' (rKv sp' p s' :: B) := by
  obtain ⟨q, bm, h1⟩ := h.kopen
  obtain ⟨g, -, e3, e4, e5, -⟩ := hg.log.synced
  have hc := g.chain
  rw [e4, hr.from_] at hc
  have h2 : Held w0 w (rDisk p (Slog.sync s.dk s.lg).1 :: B) := h1.drop0.drop0.drop0
  have hrs : recsOf (Slog.sync s.dk s.lg).2.1.segs = Kv.encs 0 l := by rw [e3]; exact hr.recs
  refine (kopen_recs h2 (Slog.Holds.left g.ok g.seen) hc g.pos g.small.2 (by rw [e5]; exact hn) (by have := g.pend_len; omega) hrs hr.check).mono ?_
  rintro e w' ⟨sp', he, hh⟩
  exact ⟨sp', _, he, hr.items.symm, hr.version.symm, hh⟩

set_option maxRecDepth 100000 in
set_option maxHeartbeats 4000000 in
theorem full_walk (w : World) (room : Int) (v : Value) (ds : List KDo) (hd : Dos (· < w.heap.size) (· < w.heap.size) w v ds) :
    Calls Tryz.prog 7 #[.int .i64 room, v] w fun e w' => e = .returned (.bool true) ∧ Below w.heap.size w w' := by
  obtain ⟨A, cc, rfl, hc, hm⟩ := hd.form
  have HS := hid (short_any w _ ds hd)
  have HD := hid hd
  clear hd
  obtain ⟨rm, hrm, hrl⟩ := u3000_mod room
  obtain ⟨n, hn⟩ : ∃ n, n = ds.length := ⟨_, rfl⟩
  have HN := hid hn
  rw [← hn] at hc HS ⊢
  clear hn
  go_enter Tryz.func7, Tryz.ntmps7
  go_wp2_with fail
  refine HS.out.mono ?_
  rintro e w1 ⟨r, rfl, hr, m1⟩
  have G0 := hid ((Held.begin w).step m1)
  clear m1
  cases r with
  | false =>
    go_wp2_with (first | (go_at_call 10; refine (kawake_any _).mono ?_; rintro e w9 ⟨rfl, m9⟩; have HE := hid (G0.out.step m9); clear m9))
    go_ret
    exact ⟨rfl, HE.out.below⟩
  | true =>
    have hl := (hr rfl).1
    rw [← HN.out] at hl
    clear hr HS
    go_wp2_with fail
    refine (kbegun_held G0.out rm (by omega)).mono ?_
    rintro e w2 ⟨p, sp, rfl, g2⟩
    have G2 := hid g2
    clear g2 G0 hrm
    go_wp2_with fail
    refine (kbegun_held G2.out 16777216 (by decide)).mono ?_
    rintro e w3 ⟨p2, sp2, rfl, g3⟩
    have G3 := hid g3.pull1
    clear g3 G2
    go_wp2_with fail
    go_loopw [44] (fun iv wr => ∃ k : Nat, k ≤ n ∧ iv = .int .i64 k ∧ ∃ s t, FullAt s t k ∧ Held w wr (rKv sp p s :: rKv sp2 p2 t :: [])) (fun iv _ => n - (intOf iv).toNat)
    case atStart => exact ⟨0, Nat.zero_le _, rfl, _, _, full_begin (by omega), G3.out⟩
    case round =>
      clear G3
      obtain ⟨k, hk, rfl, s, t, hst, hh⟩ := hrel
      by_cases hlt : k < n
      · have hlk : k < ds.length := by rw [← HN.out]; exact hlt
        obtain ⟨b1, off, q, hA, -, c0, c1, c2, c3, hops⟩ := HD.out.at hlk
        subst hA
        have hmod := hh.mod
        have d0 := hmod.cell c0 (fun h => h)
        have d1 := hmod.cell c1 (fun h => h)
        have d2 := hmod.cell c2 (fun h => h)
        have d3 := hmod.cell c3 (fun h => h)
        obtain ⟨O, oc, rfl, ho1, ho2⟩ := hops.form
        have hstep := hst.step (k := k) (by omega) ds[k].ops
        have hnx := hst.next
        have htn := hst.tw.next
        generalize ds[k] = dd at *
        have HC := hid (kcommit_held (nameOk_100 w) (hh.block 32 #[.int .i64 dd.op, .slice O dd.ops.length oc, .slice dd.kA dd.kn dd.kc, .int .i64 dd.tear]).pull1 hst.gs (by omega) (by omega) _ dd.ops (hops.opsR _))
        have HCT := hid (fun w1 B1 (g1 : Held w w1 (rKv sp2 p2 t :: B1)) => kcommit_held (nameOk_100 w) g1 hst.gt (by omega) (by omega) _ dd.ops (hops.opsR B1))
        obtain ⟨hs7, hsn⟩ := hstep
        have hltn : (k : Int) < (n : Int) := by omega
        by_cases h7 : (s.commit dd.ops).2.2 = 7
        · obtain ⟨e0, hf⟩ := hs7 h7
          have HF := hid hf
          rw [h7, e0] at HC
          generalize dd.ops.length = ol at *
          clear hh hmod c0 c1 c2 c3 hops hst hnx htn HCT hs7 hsn h7 e0 hf
          go_wp2_with (first
            | (go_at_call 12; refine HC.out.mono ?_; rintro e w3 ⟨rfl, g3⟩; have G4 := hid g3.pull1.drop0; clear g3))
          exact ⟨⟨k + 1, by omega, by congr 1, _, _, HF.out, G4.out⟩, by show n - ((k : Int) + 1).toNat < n - (k : Int).toNat; omega⟩
        · obtain ⟨e0, hf⟩ := hsn h7
          have HF := hid hf
          rw [← e0] at HCT
          obtain ⟨vv, hvv⟩ : ∃ vv, vv = (s.commit dd.ops).2.1 := ⟨_, rfl⟩
          obtain ⟨ee, hee⟩ : ∃ ee, ee = (s.commit dd.ops).2.2 := ⟨_, rfl⟩
          rw [← hvv, ← hee] at HC HCT
          rw [← hee] at h7
          generalize dd.ops.length = ol at *
          generalize (s.commit dd.ops).1 = s' at *
          generalize (t.commit dd.ops).1 = t' at *
          have h7b : (ee == 7) = false := by rw [beq_eq_false_iff_ne]; exact h7
          clear hh hmod c0 c1 c2 c3 hops hst hnx htn hs7 hsn e0 hf hvv hee
          go_wp2_with fail
          refine HC.out.mono ?_
          rintro e w5 ⟨rfl, g5⟩
          have G5 := hid g5
          have y1 := g5.pull1.blk0.cell (i := 1) rfl
          have HCT2 := hid (HCT.out _ _ g5.pull2)
          clear g5 HC HCT
          go_wp2_with fail
          refine HCT2.out.mono ?_
          rintro e w6 ⟨rfl, g6⟩
          have G6 := hid g6.pull1.pull2.drop0
          clear g6 HCT2 G5
          go_wp2_with fail
          exact ⟨⟨k + 1, by omega, by congr 1, _, _, HF.out, G6.out⟩, by show n - ((k : Int) + 1).toNat < n - (k : Int).toNat; omega⟩
      · have hltn : ¬ ((k : Int) < (n : Int)) := by omega
        have hkn : k = n := by omega
        subst hkn
        obtain ⟨l, hrec⟩ := hst.rec_
        have hnx := hst.next
        have hv1 := hst.gs.next
        have hv2 := hst.gt.next
        have htn := hst.tw.next
        have HSI := hid (fun w1 B1 (g1 : Held w w1 (rKv sp p s :: B1)) => ksince_held g1 hst.gs.items (by omega) 0)
        have HTI := hid (fun w1 B1 (g1 : Held w w1 (rKv sp2 p2 t :: B1)) => ksince_held g1 hst.gt.items (by omega) 0)
        rw [← hst.tw.items] at HTI
        have HSY := hid (fun w1 B1 (g1 : Held w w1 (rKv sp p s :: B1)) => ksync_held (nameOk_100 w) g1 hst.gs (by omega))
        have HOP := hid (fun w1 B1 (g1 : Held w w1 (rKv sp p s.sync :: B1)) => kreopen_held g1 hst.gs hrec (by omega))
        have HTV := hid (fun w1 B1 (g1 : Held w w1 (rKv sp2 p2 t :: B1)) => kversion_held g1)
        rw [← hst.tw.version] at HTV
        have HXV := hid (fun w1 sp' (s' : Kv.St) B1 (g1 : Held w w1 (rKv sp' p s' :: B1)) => kversion_held g1)
        have HXI := hid (fun w1 sp' (s' : Kv.St) B1 (g1 : Held w w1 (rKv sp' p s' :: B1)) (e1 : s'.items = s.items) (e2 : s'.version = s.version) => ksince_held g1 (by rw [e1, e2]; exact hst.gs.items) (by omega) 0)
        obtain ⟨all, hall⟩ : ∃ all, all = Kv.since s.items 0 := ⟨_, rfl⟩
        have HAL := hid hall
        rw [← hall] at HSI HTI
        have GG := hid hh
        clear hh hst hrec hnx hv1 hv2 htn hall
        go_wp2_with fail
        refine (HSI.out _ _ GG.out).mono ?_
        rintro e w4 ⟨va, rfl, g4⟩
        obtain ⟨A1, a1, rfl, -, -⟩ := g4.its_form
        have G4 := hid g4.pull2
        clear g4 HSI GG
        go_wp2_with fail
        refine (HTI.out _ _ G4.out).mono ?_
        rintro e w5 ⟨vb, rfl, g5⟩
        obtain ⟨A2, a2, rfl, -, -⟩ := g5.its_form
        have HEQ := hid (iequal_any w5 _ _ all g5.pull2.its_rd g5.its_rd)
        have G5 := hid g5
        clear g5 G4
        go_wp2_with fail
        refine HEQ.out.mono ?_
        rintro e w6 ⟨rfl, m6⟩
        have G6 := hid (G5.out.step m6).pull3
        clear m6 HEQ G5
        go_wp2_with fail
        refine (HSY.out _ _ G6.out).mono ?_
        rintro e w7 ⟨rfl, g7⟩
        have G7 := hid g7
        clear g7 HSY G6
        go_wp2_with fail
        refine (HOP.out _ _ G7.out).mono ?_
        rintro e w8 ⟨sp3, s3, rfl, hi3, hv3, g8⟩
        have HV3 := hid (HXV.out _ _ _ _ g8)
        rw [hv3] at HV3
        have HI3 := hid (fun w1 B1 (g1 : Held w w1 (rKv sp3 p s3 :: B1)) => HXI.out _ _ _ _ g1 hi3 hv3)
        rw [hi3, ← HAL.out] at HI3
        have G8 := hid g8
        clear g8 HOP HXV HXI G7 hi3 hv3
        generalize s.version = vs at *
        go_wp2_with fail
        refine HV3.out.mono ?_
        rintro e w9 ⟨rfl, rfl⟩
        clear HV3
        go_wp2_with fail
        refine (HTV.out _ _ G8.out.pull2).mono ?_
        rintro e w9 ⟨rfl, rfl⟩
        clear HTV
        go_wp2_with fail
        refine (HI3.out _ _ G8.out).mono ?_
        rintro e w10 ⟨vc, rfl, g10⟩
        obtain ⟨A3, a3, rfl, -, -⟩ := g10.its_form
        have G10 := hid g10.pull3
        clear g10 HI3 G8
        go_wp2_with fail
        refine (HTI.out _ _ G10.out).mono ?_
        rintro e w11 ⟨vd, rfl, g11⟩
        obtain ⟨A4, a4, rfl, -, -⟩ := g11.its_form
        have HEQ := hid (iequal_any w11 _ _ all g11.pull2.its_rd g11.its_rd)
        have G11 := hid g11
        clear g11 G10 HTI
        go_wp2_with fail
        refine HEQ.out.mono ?_
        rintro e w12 ⟨rfl, m12⟩
        have G12 := hid (G11.out.step m12)
        clear m12 HEQ G11
        go_wp2_with fail
        refine (kawake_any _).mono ?_
        rintro e w13 ⟨rfl, m13⟩
        have HE := hid (G12.out.step m13)
        clear m13
        go_wp2_with fail
        go_ret
        exact ⟨rfl, HE.out.below⟩
end Go.Proofs.YtdbhccehbjhbpaaGreatDoor

/- KvstoreFull: the walk over the arguments as they come in. -/
namespace Go.Proofs.YtdbhccehbjhbpaaGreatDoor
open Go.ChangeShapes Go.WideShapes Go.ChangeAt Go.RowKit
set_option maxRecDepth 100000 in
theorem full_row {H : Type} {enc : TypeId × Value → H} (W : World) (base : Nat) (v0 v1 : Value) {d0 d1 : DataW H} {p0 p1 : List MemPlace}
    (ok0 : Value.okWide Tryz.prog W .any base 3 v0) (h0 : DataW.Trod enc Tryz.prog W 0 (fun _ => true) true 3 v0 d0 p0)
    (ok1 : Value.okWide Tryz.prog W .any base 22 v1) (h1 : DataW.Trod enc Tryz.prog W 0 (fun _ => true) true 22 v1 d1 p1) :
    Calls Tryz.prog 7 #[v0, v1] W fun e w' => e = .returned (.bool true) ∧ Below W.heap.size W w' := by
  obtain ⟨x0, rfl, -⟩ := open_intR Tryz.underlying3 ok0 h0
  obtain ⟨x1, hx1⟩ := open_dos ok1 h1
  exact full_walk W x0 v1 x1 hx1
end Go.Proofs.YtdbhccehbjhbpaaGreatDoor
