/- kvstore: a law. (Several texts in one file, by mz.py.) -/
import Derived.Test.YtdbhccehbjhbpaaGreatDoorK19
import Derived.SizedLaws
import Derived.Test.YtdbhccehbjhbpaaGreatDoorKP
import Derived.Test.YtdbhccehbjhbpaaGreatDoorT20

/- kvstore's laws: what the commits of a list of calls make. -/
namespace Go.Proofs.YtdbhccehbjhbpaaGreatDoor
open Go.RowKit
open Disk (Dk Dict)
open Slog (Seg recsOf Lg)
open Kv (It KOp Items)

theorem rising_len (d : Items) (f : List UInt8 → It → Bool) : (Kv.rising d f).length ≤ d.length := by
  have := (Kv.pick_keys d f ((d.map (·.1)).mergeSort Disk.leB)).length_le
  rw [List.length_map, List.length_mergeSort, List.length_map] at this
  exact this
/-- the store behind the first k calls' commits. -/
def playK (m : Nat) (ds : List KDo) (k : Nat) : Kv.St := (kst m).play ((ds.take k).map (·.ops))
structure PlayOk (s : Kv.St) (k : Nat) : Prop where
  good : Kv.Good s
  next : s.lg.next ≤ k + 1
theorem PlayOk.ver {s : Kv.St} {k : Nat} (h : PlayOk s k) : s.version ≤ k := by have := h.good.next; have := h.next; omega
theorem playK_ok {m : Nat} (hm : m ≤ 16777216) (ds : List KDo) {k : Nat} (hk : k ≤ 60) : PlayOk (playK m ds k) k := by
  have hl : ((ds.take k).map (·.ops)).length ≤ k := by rw [List.length_map, List.length_take]; omega
  obtain ⟨h1, h2⟩ := (kst_good hm).play ((ds.take k).map (·.ops)) (by show 1 + _ ≤ 246; omega)
  refine ⟨h1, ?_⟩
  have h3 : ((kst m).play ((ds.take k).map (·.ops))).lg.next ≤ 1 + _ := h2
  show ((kst m).play ((ds.take k).map (·.ops))).lg.next ≤ k + 1
  omega
theorem playK_succ {m : Nat} {ds : List KDo} {k : Nat} (hk : k < ds.length) : playK m ds (k + 1) = ((playK m ds k).commit ds[k].ops).1 := by
  unfold playK
  rw [List.take_succ_eq_append_getElem hk, List.map_append, List.map_cons, List.map_nil, Kv.St.play_snoc]
theorem playK_all (m : Nat) (ds : List KDo) {k : Nat} (hk : ds.length ≤ k) : playK m ds k = playK m ds ds.length := by
  unfold playK
  rw [List.take_of_length_le hk, List.take_length]
theorem items_few {s : Kv.St} {k : Nat} (h : PlayOk s k) (hk : k ≤ 200) (f : List UInt8 → It → Bool) : (Kv.rising s.items f).length ≤ 60000 := by
  have := rising_len s.items f
  have := h.good.items.many
  have := h.ver
  omega

theorem le_of_gtr {a b : List UInt8} (x : (!Op.bytesLess a b && !(a == b)) = false) : a ≤ b := by
  intro h
  rw [bytesLess_eq] at x
  simp at x
  by_cases hlt : a < b
  · exact List.lt_irrefl _ (List.lt_trans hlt h)
  · exact List.lt_irrefl b (by rw [x hlt] at h; exact h)

end Go.Proofs.YtdbhccehbjhbpaaGreatDoor

/- kvstore's laws: how long an argument may be; one call ahead of others (KvstoreWrites). -/
namespace Go.Proofs.YtdbhccehbjhbpaaGreatDoor
open Go.ChangeShapes Go.WideShapes Go.ChangeAt Go.RowKit
open Kv (KOp)

theorem reach_len {H : Type} {enc : TypeId × Value → H} {P : Program} {W : World} {t e : TypeId} {d : DataW H} {p : List MemPlace} {A : Option Addr} {n c : Nat} (ht : P.underlying t = some (.slice e))
    (h : DataW.Trod enc P W 0 (fun _ => true) true t (.slice A n c) d p) {ts : List TypeId} {ds : List (DataW H)} (hw : (DataW.weightsEach P ts ds).all (· ≤ reachBytes) = true) {j : Nat} (hj : ts[j]? = some t) (hd : ds[j]? = some d) : n * P.bytesOf e ≤ 140737488351232 := by
  obtain ⟨fuel, hf⟩ := h
  rcases Go.Deep.open_slice ht hf with ⟨hcs, -⟩ | ⟨a, len, cap, m, nn, D, Pl, hcs, -, hl, -, -, hx, -⟩
  · simp [Value.cells] at hcs
    simp [hcs]
  · simp [Value.cells] at hcs
    obtain ⟨rfl, h2, rfl⟩ := hcs
    injection hx with h3 _
    subst h3
    have := sized_slice hw hj hd ht
    simp only [List.length_map, List.length_range] at this
    have h4 : reachBytes = 140737488351232 := by decide
    rw [h4] at this
    rw [h2]
    refine Nat.le_trans (Nat.mul_le_mul_right _ (Nat.le_add_right len _)) this
/-- a call that holds ops alone. -/
def opsDo (ops : List KOp) : KDo := ⟨0, ops, none, 0, 0, 0⟩
/-- one call ahead of others. -/
theorem Dos.cons {w0 w : World} {B : List Res} {u q : Value} {ds : List KDo} {qs : List Value} {ops : List KOp} (h : Held w0 w (rRows 4 32 u (doRow (opsDo ops) q :: List.zipWith doRow ds qs) :: B)) (hl : qs.length = ds.length)
    (hq : KOps (· < w0.heap.size) w0 q ops) (hd : ∀ (i : Nat) (d : KDo) (q : Value), ds[i]? = some d → qs[i]? = some q → KOps (· < w0.heap.size) w0 q d.ops) : Dos (fun _ => True) (· < w0.heap.size) w u (opsDo ops :: ds) := by
  have hm := h.mod
  have keep : ∀ (x : Value) (o : List KOp), KOps (· < w0.heap.size) w0 x o → KOps (· < w0.heap.size) w x o := fun x o hx => hx.keep fun b hb _ => hm.block b hb (fun h => h)
  refine ⟨q :: qs, by simp [hl], Held.rows_rd h, fun i d x h1 h2 => ?_⟩
  cases i with
  | zero => simp at h1 h2; subst h1 h2; exact keep _ _ hq
  | succ i => exact keep _ _ (hd i d x (by simpa using h1) (by simpa using h2))
theorem Tryz.infoDo : (Tryz.prog.info? 32).map (fun i => (i.zero, i.size, i.bytes)) = some (some (.agg #[.int .i64 0, .slice none 0 0, .slice none 0 0, .int .i64 0]), 4, 64) := by kernel_rfl
theorem bytesDo : Tryz.prog.bytesOf 32 = 64 := by kernel_rfl
/-- what Get hands back, with its parts named. -/
theorem getV_form (k : List UInt8) (o : Option Kv.It) : ∃ (k' v' : ByteArray) (g' b' : Bool) (a' : Int), getV k o = .tuple #[.agg #[.string k', .bool g', .string v', .int .i64 a'], .bool b'] := by
  cases o with
  | none => exact ⟨_, _, _, _, _, rfl⟩
  | some x => exact ⟨_, _, _, _, _, rfl⟩
end Go.Proofs.YtdbhccehbjhbpaaGreatDoor

/- kvstore's laws, plain: the same commits on two disks, one of them with much room (KvstoreFull). No program. -/
namespace Go.Proofs.YtdbhccehbjhbpaaGreatDoor
open Disk (Dk Dict used hold)
open Slog (Lg Seg nameB framed)

namespace Disk
theorem Dk.Ok.seen_hold {d : Dk} (h : d.Ok) (n : Bytes) : ((Dict.get d.seen n).getD []).length ≤ hold d.held n := by
  cases hs : Dict.get d.seen n with
  | none => simp
  | some x => exact (h.seenLe n x hs).2
theorem write_fits {d : Dk} (h : d.Ok) {n b : Bytes} (hm : may n = true) (hl : d.seen.length < 4096) (hr : used d.held + b.length ≤ d.room) : (d.write n b).2 = 0 := by
  have := h.seen_hold n
  exact (write_iff h n b).2 ⟨hm, fun _ => hl, by omega⟩
theorem write_used {d : Dk} (h : d.Ok) (n b : Bytes) : used (d.write n b).1.held ≤ used d.held + b.length := by
  rcases write_cases d n b with ⟨e, -, h1⟩ | h1
  · rw [h1]
    exact Nat.le_add_right _ _
  · rw [h1]
    show used (d.act _).held ≤ _
    rw [act_write_held]
    have := used_put h.heldOk n (max (hold d.held n) (((Dict.get d.seen n).getD []).length + b.length))
    have := h.seen_hold n
    omega
theorem sync_used {d : Dk} (h : d.Ok) (n : Bytes) : used (d.sync n).1.held ≤ used d.held := by
  unfold Dk.sync
  split
  · have h1 := used_freed h.heldOk (d.settle fun a => a.name == n).lasting n
    have h2 := h.get_settled n n
    rw [if_pos rfl] at h2
    rw [h2] at h1
    have := h.seen_hold n
    show used (freed d.held _ n) ≤ _
    omega
  · exact Nat.le_refl _
end Disk

namespace Slog
open Disk (write_fits write_used sync_used sync_room write_room)
theorem Good.few {d : Dk} {l : Lg} (h : Good d l) : d.seen.length < 4096 := by
  have h1 := (Holds.left h.ok h.seen).list h.chain h.small.1 h.pos
  have h2 := (Left.list_len h1).2
  have h3 := chain_len h.chain h.pos
  have := h.small.1
  omega
theorem Good.goes {d : Dk} {l : Lg} (h : Good d l) {k j : Nat} (hk : k < 1000) (hj : j ≤ 247) {r : Bytes} (hr : r.length ≤ 65535) (hroom : used d.held + 65600 ≤ d.room) : (d.write (nameB k) (framed j r)).2 = 0 := by
  have := framed_length hj r
  exact write_fits h.ok (may_name hk) h.few (by omega)
/-- put, twice. -/
theorem put_twin {w x : Dk × Int} {l l2 m m2 : Lg} (hw : w.2 = 0 ∨ w.2 = 7) (hx : x.2 = 0) (h1 : l2.segs = m2.segs) (h2 : l2.next = m2.next) (n : Nat) (h7 : (put w l l2 n).2.2.2 ≠ 7) :
    (put w l l2 n).2.2 = (put x m m2 n).2.2 ∧ (put w l l2 n).2.1.segs = (put x m m2 n).2.1.segs ∧ (put w l l2 n).2.1.next = (put x m m2 n).2.1.next := by
  rcases hw with hw | hw
  · unfold put
    rw [if_pos hw, if_pos hx]
    exact ⟨rfl, h1, h2⟩
  · unfold put at h7
    rw [if_neg (by rw [hw]; decide)] at h7
    exact absurd hw h7
theorem put_dk (w : Dk × Int) (l m : Lg) (n : Nat) : (put w l m n).1 = w.1 := by
  unfold put
  split <;> rfl
theorem append_twin {d c : Dk} {l m : Lg} (hd : Good d l) (hc : Good c m) (hs : l.segs = m.segs) (hn : l.next = m.next) (h246 : l.next ≤ 246) (hroom : used c.held + 65600 ≤ c.room) (r : Bytes) (h7 : (append d l r).2.2.2 ≠ 7) :
    (append d l r).2.2 = (append c m r).2.2 ∧ (append d l r).2.1.segs = (append c m r).2.1.segs ∧ (append d l r).2.1.next = (append c m r).2.1.next := by
  unfold append at h7 ⊢
  by_cases hr : 65535 < r.length
  · simp only [if_pos hr]
    exact ⟨by first | rfl | trivial, hs, hn⟩
  · simp only [if_neg hr] at h7 ⊢
    have hr' : r.length ≤ 65535 := by omega
    rw [← hs, ← hn]
    cases hgl : l.segs.getLast? with
    | none =>
      have hnil : l.segs = [] := List.getLast?_eq_none_iff.1 hgl
      simp only [hgl] at h7 ⊢
      have hp : d.pending = [] ∧ Holds d.lasting l.segs := by
        rcases hd.last with ⟨a, -, b⟩ | ⟨ls, s, k, e, -⟩
        · exact ⟨a, b⟩
        · rw [hnil] at e
          simp at e
      have hw := hd.write_new hp.1 hp.2 hd.mark_le (fun s hs => by rw [hnil] at hs; cases hs) hr' h246
      refine put_twin (hw.imp (fun h => h.1) fun h => by rw [h]) (hc.goes (by omega) (by omega) hr' hroom) ?_ ?_ _ h7
      · show l.segs ++ [(l.next, [r])] = m.segs ++ [(m.next, [r])]
        rw [hs, hn]
      · show l.next + 1 = m.next + 1
        rw [hn]
    | some s =>
      obtain ⟨ls, hls⟩ := List.getLast?_eq_some_iff.1 hgl
      simp only [hgl] at h7 ⊢
      have hnum := hd.last_num hls
      by_cases hf : 4096 ≤ s.bytes.length
      · simp only [if_pos hf] at h7 ⊢
        obtain ⟨-, hg, hp, hh⟩ := hd.sync hls
        obtain ⟨-, hg2, hp2, hh2⟩ := hc.sync (by rw [← hs]; exact hls)
        have hall : ∀ t ∈ l.segs, 0 < t.2.length := by
          intro t ht
          rw [hls] at ht
          rcases List.mem_append.1 ht with ht | ht
          · exact hd.pos ls s hls t ht
          · rw [List.mem_singleton.1 ht]
            cases hs2 : s.2 with
            | nil => unfold Seg.bytes at hf; rw [hs2] at hf; simp [framesOf] at hf
            | cons _ _ => simp
        have hw := Good.write_new (l := l.marked) hg hp hh (Nat.le_refl _) hall hr' h246
        have hx := Good.goes (l := m.marked) hg2 (k := l.next) (j := l.next) (by omega) (by omega) hr' (by have := sync_used hc.ok (nameB s.1); rw [sync_room]; omega)
        refine put_twin (hw.imp (fun h => h.1) fun h => by rw [show (d.sync (nameB s.1)).1.write (nameB l.next) (framed l.next r) = _ from h]) hx ?_ ?_ _ h7
        · show l.segs ++ [(l.next, [r])] = m.segs ++ [(m.next, [r])]
          rw [hs, hn]
        · show l.next + 1 = m.next + 1
          rw [hn]
      · simp only [if_neg hf] at h7 ⊢
        have hw := hd.write_more hls hr' h246
        refine put_twin (hw.imp (fun h => h.1) fun h => by rw [h]) (hc.goes (by omega) (by omega) hr' hroom) ?_ ?_ _ h7
        · show l.segs.dropLast ++ [_] = m.segs.dropLast ++ [_]
          rw [hs]
        · show l.next + 1 = m.next + 1
          rw [hn]
theorem append_used {d : Dk} {l : Lg} (h : Good d l) (hn : l.next ≤ 246) (r : Bytes) : used (append d l r).1.held ≤ used d.held + 65600 ∧ (append d l r).1.room = d.room := by
  unfold append
  by_cases hr : 65535 < r.length
  · simp only [if_pos hr]
    exact ⟨Nat.le_add_right _ _, by first | rfl | trivial⟩
  · simp only [if_neg hr]
    have hfl := framed_length (k := l.next) (by omega) r
    cases hgl : l.segs.getLast? with
    | none =>
      simp only [put_dk]
      have := write_used h.ok (nameB l.next) (framed l.next r)
      exact ⟨by omega, write_room _ _ _⟩
    | some s =>
      obtain ⟨ls, hls⟩ := List.getLast?_eq_some_iff.1 hgl
      simp only
      split
      · rw [put_dk]
        have h1 := sync_used h.ok (nameB s.1)
        have h2 := write_used (h.ok.sync (nameB s.1)) (nameB l.next) (framed l.next r)
        exact ⟨by omega, by rw [write_room, sync_room]⟩
      · rw [put_dk]
        have := write_used h.ok (nameB s.1) (framed l.next r)
        exact ⟨by omega, write_room _ _ _⟩
end Slog

namespace Kv
theorem St.refused_next {s : St} (h : Good s) (hn : s.lg.next ≤ 246) {ops : List KOp} (he : (s.commit ops).2.2 ≠ 0) : (s.commit ops).1.lg.next = s.lg.next := by
  unfold St.commit at he ⊢
  by_cases hc : check ops = 0
  · rw [if_pos hc] at he ⊢
    obtain ⟨g, a⟩ := h.log.append hn (enc (s.version + 1) ops)
    by_cases h2 : (Slog.append s.dk s.lg (enc (s.version + 1) ops)).2.2.2 = 0
    · simp only [if_pos h2] at he
      exact absurd rfl he
    · have e3 := (a.not h2).2.1
      simp only [if_neg h2]
      exact e3
  · rw [if_neg hc]
/-- two stores with the same records. -/
structure Twin (s t : St) : Prop where
  items : s.items = t.items
  version : s.version = t.version
  segs : s.lg.segs = t.lg.segs
  next : s.lg.next = t.lg.next
theorem Twin.commit {s t : St} (h : Twin s t) (hs : Good s) (ht : Good t) (hn : s.lg.next ≤ 246) (hroom : used t.dk.held + 65600 ≤ t.dk.room) (ops : List KOp) :
    ((s.commit ops).2.2 = 7 → (s.commit ops).2.1 = 0 ∧ Twin (s.commit ops).1 t) ∧ ((s.commit ops).2.2 ≠ 7 → (s.commit ops).2 = (t.commit ops).2 ∧ Twin (s.commit ops).1 (t.commit ops).1) := by
  constructor
  · intro h7
    have hne : (s.commit ops).2.2 ≠ 0 := by rw [h7]; decide
    obtain ⟨h1, h2, h3, h4, -⟩ := St.refused hs hn hne
    have h5 := St.refused_next hs hn hne
    exact ⟨h1, by rw [h3]; exact h.items, by rw [h2]; exact h.version, by rw [h4]; exact h.segs, by rw [h5]; exact h.next⟩
  · intro h7
    unfold St.commit at h7 ⊢
    by_cases hc : check ops = 0
    · simp only [if_pos hc] at h7 ⊢
      rw [← h.version, ← h.items]
      have he : (Slog.append s.dk s.lg (enc (s.version + 1) ops)).2.2.2 ≠ 7 := by
        intro e
        rw [if_neg (by rw [e]; decide)] at h7
        exact h7 e
      obtain ⟨e1, e2, e3⟩ := Slog.append_twin hs.log ht.log h.segs h.next hn hroom (enc (s.version + 1) ops) he
      by_cases h0 : (Slog.append s.dk s.lg (enc (s.version + 1) ops)).2.2.2 = 0
      · rw [if_pos h0, if_pos (by rw [← e1]; exact h0)]
        exact ⟨rfl, rfl, rfl, e2, e3⟩
      · rw [if_neg h0, if_neg (by rw [← e1]; exact h0)]
        exact ⟨by rw [← e1], rfl, rfl, e2, e3⟩
    · simp only [if_neg hc]
      exact ⟨by first | rfl | trivial, h⟩
theorem St.commit_used {s : St} (hs : Good s) (hn : s.lg.next ≤ 246) (ops : List KOp) : used (s.commit ops).1.dk.held ≤ used s.dk.held + 65600 ∧ (s.commit ops).1.dk.room = s.dk.room := by
  unfold St.commit
  by_cases hc : check ops = 0
  · simp only [if_pos hc]
    have h1 := Slog.append_used hs.log hn (enc (s.version + 1) ops)
    split
    · exact h1
    · exact h1
  · simp only [if_neg hc]
    exact ⟨Nat.le_add_right _ _, by first | rfl | trivial⟩
end Kv
end Go.Proofs.YtdbhccehbjhbpaaGreatDoor
