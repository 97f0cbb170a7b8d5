/- kvstore: Commit. -/
import Derived.Test.YtdbhccehbjhbpaaGreatDoorK11
import Derived.Test.YtdbhccehbjhbpaaGreatDoorK9
import Derived.Test.YtdbhccehbjhbpaaGreatDoorK4
import Derived.Test.YtdbhccehbjhbpaaGreatDoorT16
import Derived.StillTailTactics
import Derived.Deep.RegionHeld3

namespace Go.Proofs.YtdbhccehbjhbpaaGreatDoor
open Go.RowKit Go.MuLone
open Disk (Dk Dict)
open Slog (numB)
open Kv (It KOp Items putAll enc)

/-- the store while it is locked. -/
def lockCells (q bm : Nat) (v y : Nat) : Array Value := #[.int .i32 1, .int .u32 0, .pointer (some ⟨q, 0, none⟩), .map (some bm), .int .i64 v, .int .i64 y]
structure LockSeen (sp q bm v y : Nat) (w : World) : Prop where
  c0 : w.cell? ⟨sp, 0, none⟩ = some (.int .i32 1)
  c2 : w.cell? ⟨sp, 2, none⟩ = some (.pointer (some ⟨q, 0, none⟩))
  c3 : w.cell? ⟨sp, 3, none⟩ = some (.map (some bm))
  c4 : w.cell? ⟨sp, 4, none⟩ = some (.int .i64 v)
  c5 : w.cell? ⟨sp, 5, none⟩ = some (.int .i64 y)
  f0 : ∀ i, w.frozen? ⟨sp, i, none⟩ = false
theorem Blk.locked {w : World} {sp q bm v y : Nat} (h : Blk w sp 73 (lockCells q bm v y)) : LockSeen sp q bm v y w := ⟨h.cell rfl, h.cell rfl, h.cell rfl, h.cell rfl, h.cell rfl, fun i => h.frozen i⟩
section
variable {w0 w : World} {B : List Res} {sp p q bm v y : Nat}
/-- the lock is let go. -/
theorem Held.unlock (h : Held w0 w (rBlk sp 73 (lockCells q bm v y) :: B)) : Held w0 (w.setCell ⟨sp, 0, none⟩ (.int .i32 0)) (rBlk sp 73 (storeCells q bm v y) :: B) := Held.store (l1 := []) h 0 (.int .i32 0)
theorem Held.lock (h : Held w0 w (rBlk sp 73 (storeCells q bm v y) :: B)) : Held w0 (w.setCell ⟨sp, 0, none⟩ (.int .i32 1)) (rBlk sp 73 (lockCells q bm v y) :: B) := Held.store (l1 := []) h 0 (.int .i32 1)

set_option maxRecDepth 100000 in
set_option maxHeartbeats 4000000 in
/-- ops that may not be. -/
theorem kcommit_bad {s : Kv.St} (h : Held w0 w (rKv sp p s :: B)) (u : Value) (ops : List KOp) (ho : OpsR w0 B u ops) (hc : Kv.check ops ≠ 0) :
    Calls Tryz.prog 12 #[.pointer (some ⟨sp, 0, none⟩), u] w fun e w' => e = .returned (.tuple #[.int .i64 0, .int .i64 (Kv.check ops)]) ∧ Held w0 w' (rKv sp p s :: B) := by
  obtain ⟨q, bm, h1⟩ := h.kopen
  obtain ⟨c0, c2, c3, c4, c5, f0⟩ := h1.blk0.kv
  have HM := hid (kmade_any w sp q c2)
  have g1 := h1.lock
  have HC := hid (check_held g1 u ops ho.cons.cons.cons.cons)
  have hce : (Kv.check ops == 0) = false := by rw [beq_eq_false_iff_ne]; exact hc
  generalize Kv.check ops = ce at *
  clear h h1 ho c2 c3 c4 c5 g1
  go_enter_defers Tryz.func12, Tryz.ntmps12
  go_wp2_with (first
    | (go_at_call 32; refine HM.out.mono ?_; rintro e w' ⟨rfl, rfl⟩)
    | (go_at_call 33; refine (lock_free Tryz.muLib ⟨sp, 0, none⟩ _ c0 f0).mono ?_; rintro e w' ⟨rfl, rfl⟩)
    | (go_at_call 35; refine HC.out.mono ?_; rintro e w2 ⟨rfl, g2⟩; have G2 := hid g2; clear g2))
  all_goals first | exact absurd (by assumption) hc | skip
  have L2 := G2.out.blk0.locked
  refine leaves_cons (f := 34) (args := #[.pointer (some ⟨sp, 0, none⟩)]) (by simp) (by simp [go_sem]) ?_
  refine (unlock_deferred Tryz.muLib ⟨sp, 0, none⟩ .returning _ L2.c0 (L2.f0 0)).mono ?_
  rintro e u' w'' ⟨rfl, rfl, rfl⟩
  exact ⟨_, results_tmp2 rfl _ _ _, rfl, Held.kshut s G2.out.unlock⟩

/-- the record's beginning. -/
def head (v n : Nat) : List UInt8 := [1] ++ numB v ++ numB n
theorem enc_take_succ {ops : List KOp} {k : Nat} (hk : k < ops.length) : ((ops.take (k + 1)).map KOp.enc).flatten = ((ops.take k).map KOp.enc).flatten ++ (ops[k]).enc := by
  rw [List.take_succ_eq_append_getElem hk, List.map_append, List.flatten_append]
  simp
theorem putAll_take_succ {ops : List KOp} {k v : Nat} (d : Items) (hk : k < ops.length) : putAll d v (ops.take (k + 1)) = Dict.put (putAll d v (ops.take k)) ops[k].key (ops[k].it v) := by
  unfold putAll
  rw [List.take_succ_eq_append_getElem hk, List.foldl_append]
  rfl

/-- what a commit of ops that may be leaves; ap: what the log's Append gave. -/
def CommitPost (w0 : World) (B : List Res) (sp p : Nat) (s : Kv.St) (v : Nat) (ops : List KOp) (ap : Dk × Slog.Lg × Int × Int) (e : Ending) (w' : World) : Prop :=
  if ap.2.2.2 = 0 then e = .returned (.tuple #[.int .i64 v, .int .i64 0]) ∧ Held w0 w' (rKv sp p ⟨ap.1, ap.2.1, putAll s.items v ops, v, s.synced⟩ :: B)
  else e = .returned (.tuple #[.int .i64 0, .int .i64 ap.2.2.2]) ∧ Held w0 w' (rKv sp p ⟨ap.1, ap.2.1, s.items, s.version, s.synced⟩ :: B)

set_option maxRecDepth 100000 in
set_option maxHeartbeats 4000000 in
theorem kcommit_good {nm : Nat} (hnm : NameOk w0 nm) {s : Kv.St} (h : Held w0 w (rKv sp p s :: B)) (hg : Kv.Good s) (hn0 : s.lg.next < nm) (hn : s.lg.next ≤ 245) (u : Value) (ops : List KOp) (ho : OpsR w0 B u ops) (hc0 : Kv.check ops = 0) :
    Calls Tryz.prog 12 #[.pointer (some ⟨sp, 0, none⟩), u] w (CommitPost w0 B sp p s (s.version + 1) ops (Slog.append s.dk s.lg (enc (s.version + 1) ops))) := by
  obtain ⟨hp, hm, hok⟩ := Kv.check_zero hc0
  have hver := hg.next
  have hel := Kv.encs_len ops (fun o h => ⟨(hok.each o h).2.1, (hok.each o h).2.2.1⟩)
  have HEV := hid (show enc (s.version + 1) ops = head (s.version + 1) ops.length ++ ((ops.take ops.length).map KOp.enc).flatten by rw [List.take_length]; rfl)
  obtain ⟨q, bm, h1⟩ := h.kopen
  obtain ⟨c0, c2, c3, c4, c5, f0⟩ := h1.blk0.kv
  have HM := hid (kmade_any w sp q c2)
  have g1 := h1.lock
  have HC := hid (check_held g1 u ops ho.cons.cons.cons.cons)
  rw [hc0] at HC
  obtain ⟨O, oc, rfl, ho1, ho2⟩ := ho.1.form (M := [_]) h
  obtain ⟨ap, hap⟩ : ∃ ap, ap = Slog.append s.dk s.lg (enc (s.version + 1) ops) := ⟨_, rfl⟩
  have HAP := hid hap
  rw [← hap]
  have HA := hid (fun w1 v1 B1 (g1 : Held w0 w1 (rLog q p s.lg.segs s.lg.next :: rDisk p s.dk :: rBytes v1 (enc (s.version + 1) ops) :: B1)) => lappend_heldN hnm srcR_bytes g1 hg.log hn0 hn (by rw [HEV.out, List.length_append, List.take_length]; unfold head; have := Kv.numB_len (n := s.version + 1) (by omega); have := Kv.numB_len (n := ops.length) (by omega); simp only [List.length_append, List.length_singleton]; omega))
  rw [← hap] at HA
  obtain ⟨rec, hrec⟩ : ∃ rec, rec = enc (s.version + 1) ops := ⟨_, rfl⟩
  rw [← hrec] at HA HEV
  have HO := hid ho
  have HOK := hid hok
  obtain ⟨n, hn'⟩ : ∃ n, n = ops.length := ⟨_, rfl⟩
  have HN := hid hn'
  rw [← hn'] at hp hm ho1 HC HO hel HEV ⊢
  obtain ⟨vs, hvs⟩ : ∃ vs, vs = s.version := ⟨_, rfl⟩
  rw [← hvs] at hver HC HEV ⊢
  have HVS := hid hvs
  obtain ⟨v, hv⟩ : ∃ v, v = vs + 1 := ⟨_, rfl⟩
  rw [← hv] at HEV ⊢
  have HV := hid hv
  obtain ⟨dk2, l2, n2, e2⟩ := ap
  dsimp only at HA
  have hvle : vs ≤ 245 := by omega
  have hvw : (vs : Int) + 1 = (v : Int) := by omega
  clear h h1 ho c2 c3 c4 c5 g1 hc0 hok hn' hvs hv hap hrec hver hg hnm hn0 hn
  go_enter_defers Tryz.func12, Tryz.ntmps12
  go_wp2_with (first
    | (go_at_call 32; refine HM.out.mono ?_; rintro e w' ⟨rfl, rfl⟩)
    | (go_at_call 33; refine (lock_free Tryz.muLib ⟨sp, 0, none⟩ _ c0 f0).mono ?_; rintro e w' ⟨rfl, rfl⟩)
    | (go_at_call 35; refine HC.out.mono ?_; rintro e w2 ⟨rfl, g2⟩; obtain ⟨d0, d2, d3, d4, d5, e0⟩ := g2.blk0.locked; have G2 := hid g2; clear g2)
    | (go_at_call 36; refine (wnumber_held (G2.out.alloc _) _ _ [1] (show Rd _ _ _ (bytesV [1]) from (own_built 5 w2 [.int .u8 1] (by simp [maxLen])).rd) (by decide) v (by omega)).mono ?_; rintro e w3 ⟨v3, rfl, g3⟩; obtain ⟨A3, c3, rfl, -, -⟩ := Held.form (l1 := []) g3; have G3 := hid g3; clear g3 G2 d0 d2 d3 d4 d5 e0)
    | (go_at_call 36; refine (wnumber_held G3.out (fun _ => True) _ ([1] ++ numB v) (Held.bytes (l1 := []) G3.out) (by have := Kv.numB_len (n := v) (by omega); simp only [List.length_append, List.length_singleton]; omega) n (by omega)).mono ?_; rintro e w4 ⟨v4, rfl, g4⟩; have G4 := hid (show Held w0 w4 (rBytes v4 (head v n) :: _) from g4.pull1.drop0); clear g4 G3))
  go_loopw [8, 48] (fun bv iv wr => ∃ k, k ≤ n ∧ iv = .int .i64 (k : Nat) ∧ Held w0 wr (rBytes bv (head v n ++ ((ops.take k).map KOp.enc).flatten) :: rBlk sp 73 (lockCells q bm vs s.synced) :: rItems bm s.items :: rLog q p s.lg.segs s.lg.next :: rDisk p s.dk :: B)) (fun _ iv _ => n - (intOf iv).toNat)
  case atStart => exact ⟨0, Nat.zero_le _, rfl, by simpa using G4.out⟩
  case round =>
    obtain ⟨k, hk, rfl, hh⟩ := hrel
    obtain ⟨bA, bc, rfl, hb1, hb2⟩ := Held.form (l1 := []) hh
    by_cases hlt : k < n
    · have hlo : k < ops.length := by rw [← HN.out]; exact hlt
      obtain ⟨b, off, c', hv, o0, o1, o2⟩ := (HO.out.1 wr [_, _, _, _, _] hh).op hlo
      injection hv with e1 e2 e3
      subst e1
      clear e2 e3
      obtain ⟨y1, y2, y3, y4, -⟩ := HOK.out.each _ (List.getElem_mem hlo)
      have HTS := hid (enc_take_succ hlo)
      have hll := Kv.encs_len (ops.take k) (fun o h => ⟨(HOK.out.each o (List.take_subset _ _ h)).2.1, (HOK.out.each o (List.take_subset _ _ h)).2.2.1⟩)
      rw [List.length_take] at hll
      have hhl : (head v n).length ≤ 7 := by unfold head; have := Kv.numB_len (n := v) (by omega); have := Kv.numB_len (n := n) (by omega); simp only [List.length_append, List.length_singleton]; omega
      obtain ⟨l, hl⟩ : ∃ l, l = head v n ++ ((ops.take k).map KOp.enc).flatten := ⟨_, rfl⟩
      have hlen : l.length ≤ 1100000 := by rw [hl, List.length_append]; omega
      have HL := hid hl
      rw [← hl] at hh hb1 ⊢
      generalize ops[k] = o at *
      obtain ⟨key, gone, value⟩ := o
      unfold sv at o0 o2
      dsimp only at o0 o1 o2 y1 y2 y3 y4
      have hltn : (k : Int) < (n : Int) := by omega
      have HB := hid (hh.block 55 #[.string ⟨key.toArray⟩, .bool gone, .string ⟨value.toArray⟩])
      have x0 := HB.out.blk0.cell (i := 0) rfl
      have x1 := HB.out.blk0.cell (i := 1) rfl
      have x2 := HB.out.blk0.cell (i := 2) rfl
      have HT := hid (text_held HB.out.drew (fun _ => True) _ l (Held.bytes (l1 := [_]) HB.out.drew) (by omega) key (by omega))
      have hnk := Kv.numB_len (n := key.length) (by omega)
      obtain ⟨l2', hl2⟩ : ∃ l2', l2' = l ++ (numB key.length ++ key) := ⟨_, rfl⟩
      have hl2len : l2'.length ≤ 1200000 := by rw [hl2, List.length_append, List.length_append]; omega
      have HL2 := hid hl2
      rw [← hl2] at HT
      have HTo := hid (fun w1 v1 B1 (g1 : Held w0 w1 (rBytes v1 l2' :: B1)) => told_held g1 (by omega) gone value (by omega))
      unfold sv at HT HTo
      clear hh hl hl2 hll hhl y1 y2 y3 y4 hnk hlen
      go_wp2_with fail
      generalize hkb : wr.heap.size = kb at *
      generalize wr.alloc (.cells #[.string ⟨key.toArray⟩, .bool gone, .string ⟨value.toArray⟩] 55) = w1 at *
      go_region_held3 (fun w' => w'.cell? ⟨kb, 0, none⟩ = some (.string ⟨key.toArray⟩) ∧ w'.cell? ⟨kb, 1, none⟩ = some (.bool gone) ∧ w'.cell? ⟨kb, 2, none⟩ = some (.string ⟨value.toArray⟩))
        (first | exact ⟨x0, x1, x2⟩ | exact ⟨z0, z1, z2⟩ | exact ⟨t0, t1, t2⟩)
        (first
          | (go_at_call 38; refine HT.out.mono ?_; rintro e w2 ⟨v2, rfl, g2⟩; have z0 := g2.pull1.blk0.cell (i := 0) rfl; have z1 := g2.pull1.blk0.cell (i := 1) rfl; have z2 := g2.pull1.blk0.cell (i := 2) rfl; have G2 := hid g2; clear g2)
          | (go_at_call 37; refine (HTo.out _ _ _ G2.out).mono ?_; rintro e w3 ⟨v3, rfl, g3⟩; have t0 := g3.pull1.blk0.cell (i := 0) rfl; have t1 := g3.pull1.blk0.cell (i := 1) rfl; have t2 := g3.pull1.blk0.cell (i := 2) rfl; have G3 := hid g3; clear g3))
      all_goals
        go_wp2_with fail
        refine ⟨⟨k + 1, by omega, by congr 1, ?_⟩, by show n - ((k : Int) + 1).toNat < n - (k : Int).toNat; omega⟩
        have g5 := G3.out.pull1.drop0.pull1.drop0
        have e5 : l2' ++ Kv.told gone value = head v n ++ ((ops.take (k + 1)).map KOp.enc).flatten := by
          rw [HTS.out, HL2.out, HL.out]
          show _ = _ ++ (_ ++ (numB key.length ++ key ++ Kv.told gone value))
          simp only [List.append_assoc]
        rw [← e5]
        exact g5
    · have hltn : ¬ ((k : Int) < (n : Int)) := by omega
      have hkn : k = n := by omega
      subst hkn
      rw [← HEV.out] at hh ⊢
      have g6 := hh.pull3.pull4.pull1
      have d2 : wr.cell? ⟨sp, 2, none⟩ = some (.pointer (some ⟨q, 0, none⟩)) := hh.pull1.blk0.locked.c2
      have G6 := hid (show Held w0 wr (rLog q p s.lg.segs s.lg.next :: rDisk p s.dk :: rBytes (.slice bA _ bc) rec :: _) from g6)
      clear hh g6 G4 hb1
      generalize rec.length = ln at *
      by_cases he : e2 = 0
      · subst he
        go_wp2_with (first
          | (go_at_call 39; refine (HA.out _ _ _ G6.out).mono ?_; rintro e w7 ⟨rfl, g7⟩; obtain ⟨d0, d2', d3, d4, d5, e0⟩ := g7.pull3.blk0.locked; have G7 := hid g7.pull2.drop0.pull3.pull3; clear g7))
        clear G6
        go_loopw [76] (fun iv wr => ∃ j, j ≤ k ∧ iv = .int .i64 (j : Nat) ∧ Held w0 wr (rBlk sp 73 (lockCells q bm vs s.synced) :: rItems bm (putAll s.items v (ops.take j)) :: rLog q p l2.segs l2.next :: rDisk p dk2 :: B)) (fun iv _ => k - (intOf iv).toNat)
        case atStart => exact ⟨0, Nat.zero_le _, rfl, G7.out⟩
        case round =>
          obtain ⟨j, hj, rfl, hh⟩ := hrel
          by_cases hjl : j < k
          · have hlo : j < ops.length := by rw [← HN.out]; exact hjl
            obtain ⟨b, off, c', hv, o0, o1, o2⟩ := (HO.out.1 wr [_, _, _, _] hh).op hlo
            injection hv with e1 e2 e3
            subst e1
            clear e2 e3
            obtain ⟨y1, y2, y3, y4, -⟩ := HOK.out.each _ (List.getElem_mem hlo)
            have HTS := hid (putAll_take_succ (v := v) s.items hlo)
            generalize ops[j] = o at *
            obtain ⟨key, gone, value⟩ := o
            unfold sv at o0 o2
            dsimp only at o0 o1 o2 y1 y2 y3 y4
            have hltn : (j : Int) < (k : Int) := by omega
            have g8 := hh.block 55 #[.string ⟨key.toArray⟩, .bool gone, .string ⟨value.toArray⟩]
            have x0 := g8.blk0.cell (i := 0) rfl
            have x1 := g8.blk0.cell (i := 1) rfl
            have x2 := g8.blk0.cell (i := 2) rfl
            have x3 := g8.pull1.blk0.locked.c3
            obtain ⟨w9, hr9, g9⟩ := Held.items_put (A := [_, _]) g8.drew (n := key) (by omega) (KOp.it ⟨key, gone, value⟩ v)
            have G9 := hid g9
            unfold sv itemV KOp.it sv at hr9
            dsimp only at hr9
            clear hh g8 g9 y1 y2 y3 y4
            go_wp2_with fail
            generalize hkb : wr.heap.size = kb at *
            generalize wr.alloc (.cells #[.string ⟨key.toArray⟩, .bool gone, .string ⟨value.toArray⟩] 55) = w1 at *
            go_still_tail 14, (by kernel_rfl)
            go_wp2_with fail
            refine ⟨⟨j + 1, by omega, by congr 1, ?_⟩, by show k - ((j : Int) + 1).toNat < k - (j : Int).toNat; omega⟩
            rw [HTS.out]
            exact G9.out.drop0
          · have hltn : ¬ ((j : Int) < (k : Int)) := by omega
            have hjk : j = k := by omega
            subst hjk
            have g8 := hh
            rw [List.take_of_length_le (by rw [← HN.out]; exact Nat.le_refl _)] at g8
            obtain ⟨d0, d2', d3, d4, d5, e0⟩ := g8.blk0.locked
            have e4 := e0 4
            have G8 := hid g8
            clear hh g8
            go_wp2_with fail
            have g9 : Held w0 (wr.setCell ⟨sp, 4, none⟩ (.int .i64 v)) (rBlk sp 73 (lockCells q bm v s.synced) :: _) := Held.store (l1 := []) G8.out 4 (.int .i64 v)
            have L2 := g9.blk0.locked
            refine leaves_cons (f := 34) (args := #[.pointer (some ⟨sp, 0, none⟩)]) (by simp) (by simp [go_sem]) ?_
            refine (unlock_deferred Tryz.muLib ⟨sp, 0, none⟩ .returning _ L2.c0 (L2.f0 0)).mono ?_
            rintro e u' w'' ⟨rfl, rfl, rfl⟩
            refine ⟨_, results_tmp2 rfl _ _ _, ?_⟩
            unfold CommitPost
            rw [if_pos rfl]
            exact ⟨rfl, Held.kshut ⟨dk2, l2, putAll s.items v ops, v, s.synced⟩ g9.unlock⟩
      · have hz : (e2 == 0) = false := by rw [beq_eq_false_iff_ne]; exact he
        go_wp2_with (first
          | (go_at_call 39; refine (HA.out _ _ _ G6.out).mono ?_; rintro e w7 ⟨rfl, g7⟩; have G7 := hid g7.pull2.drop0.pull3.pull3; clear g7))
        all_goals first | exact absurd (by assumption) he | skip
        have L2 := G7.out.blk0.locked
        refine leaves_cons (f := 34) (args := #[.pointer (some ⟨sp, 0, none⟩)]) (by simp) (by simp [go_sem]) ?_
        refine (unlock_deferred Tryz.muLib ⟨sp, 0, none⟩ .returning _ L2.c0 (L2.f0 0)).mono ?_
        rintro e u' w'' ⟨rfl, rfl, rfl⟩
        refine ⟨_, results_tmp2 rfl _ _ _, ?_⟩
        unfold CommitPost
        rw [if_neg he]
        refine ⟨rfl, ?_⟩
        have g9 := G7.out.unlock
        rw [HVS.out] at g9
        exact Held.kshut ⟨dk2, l2, s.items, s.version, s.synced⟩ g9

/-- COMMIT over a store that keeps to its rules. -/
theorem kcommit_held {nm : Nat} (hnm : NameOk w0 nm) {s : Kv.St} (h : Held w0 w (rKv sp p s :: B)) (hg : Kv.Good s) (hn0 : s.lg.next < nm) (hn : s.lg.next ≤ 245) (u : Value) (ops : List KOp) (ho : OpsR w0 B u ops) :
    Calls Tryz.prog 12 #[.pointer (some ⟨sp, 0, none⟩), u] w fun e w' => e = .returned (.tuple #[.int .i64 (s.commit ops).2.1, .int .i64 (s.commit ops).2.2]) ∧ Held w0 w' (rKv sp p (s.commit ops).1 :: B) := by
  unfold Kv.St.commit
  by_cases hc : Kv.check ops = 0
  · rw [if_pos hc]
    refine (kcommit_good hnm h hg hn0 hn u ops ho hc).mono ?_
    intro e w' hp
    unfold CommitPost at hp
    by_cases he : (Slog.append s.dk s.lg (enc (s.version + 1) ops)).2.2.2 = 0
    · rw [if_pos he] at hp
      simp only [if_pos he]
      exact hp
    · rw [if_neg he] at hp
      simp only [if_neg he]
      exact hp
  · rw [if_neg hc]
    exact kcommit_bad h u ops ho hc
end
end Go.Proofs.YtdbhccehbjhbpaaGreatDoor
