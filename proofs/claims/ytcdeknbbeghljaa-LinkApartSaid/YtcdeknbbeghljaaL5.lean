/- link: the contracts of rest over a net, Send, Carry, Close. -/
import Derived.Test.YtcdeknbbeghljaaL4
namespace Go.Proofs.Ytcdeknbbeghljaa
open Go.RowKit
open Go.ChangeMaps (setBlock)
open Go.Maps (Keyed)
open Link

theorem Link.Net.Ok.wf {n : Net} (h : n.Ok) (hl : n.last ≤ 1000000001) : ∀ q ∈ n.conns, (Lit.int .i64 q.1).wf = true := fun q hq => by
  have := h.ids q hq
  exact wf_small (by omega) (by omega)

/-- one connection in focus. -/
theorem NetAt.focus {p : Nat} {n : Net} {w : World} {F : List Nat} (h : NetAt p n w F) (hn : F.Nodup) (hok : n.Ok) (hl : n.last ≤ 1000000001) {id : Int} {c : Conn} (hg : n.get id = some c) :
    ∃ bm b s0 s1 F0 F1, w.cell? ⟨p, 0, none⟩ = some (.map (some bm)) ∧ (Instr.lookup 46 (.map (some bm)) (.int .i64 id) false).run Try.prog w = .ok (.pointer (some ⟨b, 0, none⟩)) w ∧
      Blk w b 73 (connCells c s0 s1) ∧ Own 5 1 s0 c.p0.way.length (bytesV c.p0.way) w F0 ∧ Own 5 1 s1 c.p1.way.length (bytesV c.p1.way) w F1 ∧ (b :: (F0 ++ F1)).Nodup ∧ (∀ k ∈ b :: (F0 ++ F1), k ∈ F) ∧
      ∀ w' c' Fx', ConnR c' (.pointer (some ⟨b, 0, none⟩)) w' Fx' → Upd w w' (b :: (F0 ++ F1)) Fx' → ∃ F', NetAt p (n.put id c') w' F' ∧ Upd w w' F F' ∧ ∀ k ∈ F', k ∈ F ∨ k ∈ Fx' := by
  obtain ⟨bm, G, hb, hm, rfl⟩ := h
  obtain ⟨l1, l2, hs⟩ := split_of_get hg
  rw [List.nodup_cons] at hn
  have hm1 := hm
  rw [hs] at hm1
  have hwf := hok.wf hl (id, c) (by rw [hs]; simp)
  obtain ⟨v, Fx, ⟨b, s0, s1, F0, F1, rfl, hc, h0, h1, rfl⟩, nx, sx, hlk, hw⟩ := hm1.focus connLoc intKeyed Try.underlying46 hn.2 (intKey id hwf)
  have hbm : bm ∈ G := by obtain ⟨_, _, _, _, _, rfl⟩ := hm; simp
  refine ⟨bm, b, s0, s1, F0, F1, hb.cell rfl, hlk false, hc, h0, h1, nx, fun k hk => List.mem_cons_of_mem _ (sx k hk).1, fun w' c' Fx' hc' hu => ?_⟩
  obtain ⟨G', hm', hu', hs'⟩ := hw w' c' Fx' hc' hu
  have hp : p ∉ b :: (F0 ++ F1) := fun h => hn.1 (sx p h).1
  obtain ⟨k1, _⟩ := hu.other (G := [p]) (by simpa using hp) (by simpa using hb.lt)
  have hpG : p ∉ G' := fun h => by
    rcases hu'.sub p h with h | h
    · exact hn.1 h
    · have := hb.lt; omega
  refine ⟨p :: G', ⟨bm, G', hb.of_eq (k1 p (by simp)), ?_, rfl⟩, ⟨hu'.mod.mono (fun k _ hk => by simp [hk]), by rw [List.nodup_cons]; exact ⟨hpG, hu'.nodup⟩, fun k hk => ?_⟩, fun k hk => ?_⟩
  · rw [put_split hs hok.apart]; exact hm'
  · rcases List.mem_cons.1 hk with rfl | hk
    · exact .inl (by simp)
    · rcases hu'.sub k hk with h | h
      · exact .inl (by simp [h])
      · exact .inr h
  · rcases List.mem_cons.1 hk with rfl | hk
    · exact .inl (by simp)
    · rcases hs' k hk with h | h
      · exact .inl (by simp [h])
      · exact .inr h

theorem NetAt.lookup_none {p : Nat} {n : Net} {w : World} {F : List Nat} (h : NetAt p n w F) {id : Int} (hwf : (Lit.int .i64 id).wf = true) (hg : n.get id = none) :
    ∃ bm, w.cell? ⟨p, 0, none⟩ = some (.map (some bm)) ∧ (Instr.lookup 46 (.map (some bm)) (.int .i64 id) false).run Try.prog w = .ok (.pointer none) w := by
  obtain ⟨bm, G, hb, hm, rfl⟩ := h
  exact ⟨bm, hb.cell rfl, hm.miss intKeyed Try.underlying46 (zeroConnPtr w) (intKey id hwf) (fun q hq e => not_of_get hg q hq (by injection e)) false⟩

/-- one connection goes. -/
theorem NetAt.delete {p : Nat} {n : Net} {w : World} {F : List Nat} (h : NetAt p n w F) (hn : F.Nodup) (hok : n.Ok) (hl : n.last ≤ 1000000001) {id : Int} {c : Conn} (hg : n.get id = some c) :
    ∃ bm, w.cell? ⟨p, 0, none⟩ = some (.map (some bm)) ∧ ∀ W, Mod (fun _ => False) w W → ∃ w', (∀ ty, (Builtin.delete_ #[46, 3] ty #[.map (some bm), .int .i64 id]).run Try.prog W = .ok (.tuple #[]) w') ∧
      ∃ F', NetAt p (n.del id) w' F' ∧ Upd w w' F F' := by
  have hlt := (NetAt.loc p).lt h
  have h' := h
  obtain ⟨bm, G, hb, hm, rfl⟩ := h'
  obtain ⟨l1, l2, hs⟩ := split_of_get hg
  rw [List.nodup_cons] at hn
  have hm1 := hm
  rw [hs] at hm1
  have hwf := hok.wf hl (id, c) (by rw [hs]; simp)
  have hbm : bm ∈ G := by obtain ⟨_, _, _, _, _, rfl⟩ := hm; simp
  have hne : bm ≠ p := fun e => hn.1 (e ▸ hbm)
  refine ⟨bm, hb.cell rfl, fun W hW => ?_⟩
  have hm2 := (MapBig.loc connLoc).keep (w' := W) hm1 (fun k hk => hW.block k (hlt k (by simp [hk])) (fun h => h))
  have hall : ∀ ty, ∃ o, (Builtin.delete_ #[46, 3] ty #[.map (some bm), .int .i64 id]).run Try.prog W = .ok (.tuple #[]) (setBlock W bm o) ∧ ∃ F', MapBig Try.prog 3 (Value.int .i64) ConnR bm (l1 ++ l2) (setBlock W bm o) F' ∧ F'.Nodup ∧ (∀ b ∈ F', b ∈ G) :=
    fun ty => hm2.delete_hit connLoc intKeyed Try.underlying46 hn.2 (intKey id hwf) 3 ty
  obtain ⟨o, hrun, G', hm3, n3, s3⟩ := hall 0
  refine ⟨setBlock W bm o, fun ty => hrun, p :: G', ⟨bm, G', (hb.mod hW (fun h => h)).of_eq (setBlock_other _ _ hne), by rw [del_split hs hok.apart]; exact hm3, rfl⟩, ((hW.mono (fun _ _ h => h.elim)).setBlock (fun _ => by simp [hbm]) _), ?_, fun k hk => .inl ?_⟩
  · rw [List.nodup_cons]
    exact ⟨fun h => hn.1 (s3 p h), n3⟩
  · rcases List.mem_cons.1 hk with rfl | hk
    · simp
    · simp [s3 k hk]

/-- what 'rest' makes of a net. -/
theorem rest_net (p b : Nat) (n : Net) (w : World) (F : List Nat) (id : Int) (c : Conn) (s0 s1 : Value) (hNet : NetAt p n w F) (hn : F.Nodup) (hok : n.Ok) (hl : n.last ≤ 1000000001) (hg : n.get id = some c)
    (hb : Blk w b 73 (connCells c s0 s1)) (h0 : ∃ A k, s0 = .slice A c.p0.way.length k) (h1 : ∃ A k, s1 = .slice A c.p1.way.length k) :
    Calls Try.prog 33 #[.pointer (some ⟨p, 0, none⟩), .int .i64 id, .pointer (some ⟨b, 0, none⟩)] w fun e w' => e = .returned (.tuple #[]) ∧ ∃ F', NetAt p (if rested c then n.del id else n) w' F' ∧ Upd w w' F F' := by
  obtain ⟨A0, k0, rfl⟩ := h0
  obtain ⟨A1, k1, rfl⟩ := h1
  by_cases hr : rested c = true
  · rw [if_pos hr]
    obtain ⟨bm, hc, hD⟩ := hNet.delete hn hok hl hg
    exact rest_yes p bm b w id c _ _ A0 A1 k0 k1 rfl rfl hc hb hr (fun w' => ∃ F', NetAt p (n.del id) w' F' ∧ Upd w w' F F') hD
  · rw [if_neg hr]
    refine (rest_no p b w id c _ _ A0 A1 k0 k1 rfl rfl hb (by simpa using hr)).mono ?_
    rintro e w' ⟨rfl, hm⟩
    exact ⟨rfl, F, (NetAt.loc p).keep hNet (fun k hk => hm.block k ((NetAt.loc p).lt hNet k hk) (fun h => h)), hm.mono (fun _ _ h => h.elim), hn, fun _ h => .inl h⟩

/-- the way to end 0 is another. -/
theorem conn_set0 {w w1 : World} {b : Nat} {c : Conn} {s0 s1 v' : Value} {F0 F1 F0' : List Nat} {l : List UInt8} (hb : Blk w b 73 (connCells c s0 s1)) (h1 : Own 5 1 s1 c.p1.way.length (bytesV c.p1.way) w F1)
    (hn : (b :: (F0 ++ F1)).Nodup) (ho : Own 5 1 v' l.length (bytesV l) w1 F0') (hu : Upd w w1 F0 F0') :
    ConnR { c with p0 := { c.p0 with way := l } } (.pointer (some ⟨b, 0, none⟩)) (w1.setCell ⟨b, 2, none⟩ v') (b :: (F0' ++ F1)) ∧ Upd w (w1.setCell ⟨b, 2, none⟩ v') (b :: (F0 ++ F1)) (b :: (F0' ++ F1)) ∧
      w1.cell? ⟨b, 2, none⟩ = some s0 ∧ w1.frozen? ⟨b, 2, none⟩ = false := by
  rw [List.nodup_cons, List.nodup_append, List.mem_append, not_or] at hn
  obtain ⟨⟨nb0, nb1⟩, n0, n1, d⟩ := hn
  obtain ⟨k1, e1⟩ := hu.other (G := F1) (fun k hk h => d k h k hk rfl) h1.lt
  obtain ⟨kb, eb⟩ := hu.other (G := [b]) (by simpa using nb0) (by simpa using hb.lt)
  have hb1 : Blk w1 b 73 (connCells c s0 s1) := hb.of_eq (kb b (by simp))
  refine ⟨⟨b, v', s1, F0', F1, rfl, hb1.set 2 v', ho.keep (fun k hk => Below.heap_setCell _ _ _ _ (by rintro rfl; exact eb _ (by simp) hk)), (h1.keep k1).keep (fun k hk => Below.heap_setCell _ _ _ _ (by rintro rfl; exact nb1 hk)), rfl⟩, ⟨?_, ?_, ?_⟩, hb1.cell rfl, hb1.frozen 2⟩
  · exact (hu.mod.mono (fun k _ hk => by simp [hk])).setCell (fun _ => by simp) _
  · rw [List.nodup_cons, List.nodup_append, List.mem_append, not_or]
    exact ⟨⟨eb b (by simp), nb1⟩, hu.nodup, n1, fun x hx y hy e => by subst e; exact e1 x hy hx⟩
  · intro k hk
    rcases List.mem_cons.1 hk with rfl | hk
    · exact .inl (by simp)
    · rcases List.mem_append.1 hk with hk | hk
      · rcases hu.sub k hk with h | h
        · exact .inl (by simp [h])
        · exact .inr h
      · exact .inl (by simp [hk])

theorem conn_set1 {w w1 : World} {b : Nat} {c : Conn} {s0 s1 v' : Value} {F0 F1 F1' : List Nat} {l : List UInt8} (hb : Blk w b 73 (connCells c s0 s1)) (h0 : Own 5 1 s0 c.p0.way.length (bytesV c.p0.way) w F0)
    (hn : (b :: (F0 ++ F1)).Nodup) (ho : Own 5 1 v' l.length (bytesV l) w1 F1') (hu : Upd w w1 F1 F1') :
    ConnR { c with p1 := { c.p1 with way := l } } (.pointer (some ⟨b, 0, none⟩)) (w1.setCell ⟨b, 4, none⟩ v') (b :: (F0 ++ F1')) ∧ Upd w (w1.setCell ⟨b, 4, none⟩ v') (b :: (F0 ++ F1)) (b :: (F0 ++ F1')) ∧
      w1.cell? ⟨b, 4, none⟩ = some s1 ∧ w1.frozen? ⟨b, 4, none⟩ = false := by
  rw [List.nodup_cons, List.nodup_append, List.mem_append, not_or] at hn
  obtain ⟨⟨nb0, nb1⟩, n0, n1, d⟩ := hn
  obtain ⟨k0, e0⟩ := hu.other (G := F0) (fun k hk h => d k hk k h rfl) h0.lt
  obtain ⟨kb, eb⟩ := hu.other (G := [b]) (by simpa using nb1) (by simpa using hb.lt)
  have hb1 : Blk w1 b 73 (connCells c s0 s1) := hb.of_eq (kb b (by simp))
  refine ⟨⟨b, s0, v', F0, F1', rfl, hb1.set 4 v', (h0.keep k0).keep (fun k hk => Below.heap_setCell _ _ _ _ (by rintro rfl; exact nb0 hk)), ho.keep (fun k hk => Below.heap_setCell _ _ _ _ (by rintro rfl; exact eb _ (by simp) hk)), rfl⟩, ⟨?_, ?_, ?_⟩, hb1.cell rfl, hb1.frozen 4⟩
  · exact (hu.mod.mono (fun k _ hk => by simp [hk])).setCell (fun _ => by simp) _
  · rw [List.nodup_cons, List.nodup_append, List.mem_append, not_or]
    exact ⟨⟨nb0, eb b (by simp)⟩, n0, hu.nodup, fun x hx y hy e => by subst e; exact e0 x hx hy⟩
  · intro k hk
    rcases List.mem_cons.1 hk with rfl | hk
    · exact .inl (by simp)
    · rcases List.mem_append.1 hk with hk | hk
      · exact .inl (by simp [hk])
      · rcases hu.sub k hk with h | h
        · exact .inl (by simp [h])
        · exact .inr h

theorem lookOf_m1 (v : Value) : lookOf v (-1) = .tuple #[.pointer none, .int .i64 0, .int .i64 1] := rfl
theorem lookOf_0 (v : Value) : lookOf v 0 = .tuple #[v, .int .i64 0, .int .i64 0] := rfl
theorem lookOf_1 (v : Value) : lookOf v 1 = .tuple #[v, .int .i64 1, .int .i64 0] := rfl

theorem end_cases (c : Conn) (node : Int) : c.end_ node = -1 ∨ c.end_ node = 0 ∨ c.end_ node = 1 := by
  unfold Conn.end_
  split
  · exact .inr (.inl rfl)
  · split
    · exact .inr (.inr rfl)
    · exact .inl rfl

set_option maxRecDepth 100000 in
set_option maxHeartbeats 4000000 in
theorem send_any (S : Nat → Prop) (p : Nat) (n : Net) (w : World) (F : List Nat) (id node : Int) (v : Value) (bs : List UInt8) (hNet : NetAt p n w F) (hn : F.Nodup) (hok : n.Ok) (hl : n.last ≤ 1000000001) (hwf : (Lit.int .i64 id).wf = true)
    (hv : Rd S w v (bytesV bs)) :
    Calls Try.prog 14 #[.pointer (some ⟨p, 0, none⟩), .int .i64 id, .int .i64 node, v] w fun e w' =>
      e = .returned (.int .i64 (n.send id node bs).2) ∧ ∃ F', NetAt p (n.send id node bs).1 w' F' ∧ Upd w w' F F' := by
  cases hg : n.get id with
  | none =>
    have hd : n.send id node bs = (n, 30) := by simp [Net.send, hg]
    obtain ⟨bm, c0, hlk⟩ := hNet.lookup_none hwf hg
    have HL := hid (look_none p bm w id node c0 hlk)
    have HD := hid hd
    clear hd hlk hg
    go_enter Try.func14, Try.ntmps14
    go_wp2_with (first
      | (go_at_call 31; refine HL.out.mono ?_; rintro e w' ⟨rfl, rfl⟩))
    go_ret
    rw [HD.out]
    exact ⟨rfl, _, hNet, Upd.refl _ hn⟩
  | some c =>
    obtain ⟨bm, b, s0, s1, F0, F1, c0, hlk, hb, h0, h1, hnd, hsub, hput⟩ := hNet.focus hn hok hl hg
    have HL0 := look_some p bm b w id node c s0 s1 c0 hlk hb
    have hv' := hv
    obtain ⟨A, cp, hvv, hcp, hmx, _⟩ := hv'
    rw [bytesV_length] at hvv hcp
    obtain ⟨A0, k0, rfl⟩ := h0.form
    obtain ⟨A1, k1, rfl⟩ := h1.form
    have e2 : w.cell? ⟨b, 2, none⟩ = some (.slice A0 c.p0.way.length k0) := hb.cell rfl
    have e3 : w.cell? ⟨b, 3, none⟩ = some (.bool c.p0.shut) := hb.cell rfl
    have e4 : w.cell? ⟨b, 4, none⟩ = some (.slice A1 c.p1.way.length k1) := hb.cell rfl
    have e5 : w.cell? ⟨b, 5, none⟩ = some (.bool c.p1.shut) := hb.cell rfl
    have f0 := (hok.fits (id, c) (by obtain ⟨l1, l2, hs⟩ := split_of_get hg; rw [hs]; simp)).1
    have f1 := (hok.fits (id, c) (by obtain ⟨l1, l2, hs⟩ := split_of_get hg; rw [hs]; simp)).2
    simp only at f0 f1
    unfold maxLen at hmx
    subst hvv
    rcases end_cases c node with hend | hend | hend
    · have hd : n.send id node bs = (n, 1) := by simp [Net.send, hg, hend]
      have HD := hid hd
      rw [hend, lookOf_m1] at HL0
      have HL := hid HL0
      clear HL0
      clear hd hend hg hlk
      go_enter Try.func14, Try.ntmps14
      go_wp2_with (first
        | (go_at_call 31; refine HL.out.mono ?_; rintro e w' ⟨rfl, rfl⟩))
      go_ret
      rw [HD.out]
      exact ⟨rfl, _, hNet, Upd.refl _ hn⟩
    · rw [hend, lookOf_0] at HL0
      have HL := hid HL0
      clear HL0
      cases hsh : c.p1.shut with
      | true =>
        have hd : n.send id node bs = (n, 31) := by simp [Net.send, hg, hend, Conn.to, hsh]
        have HD := hid hd
        rw [hsh] at e5
        clear hd hend hg hlk hsh
        go_enter Try.func14, Try.ntmps14
        go_wp2_with (first
          | (go_at_call 31; refine HL.out.mono ?_; rintro e w' ⟨rfl, rfl⟩))
        go_ret
        rw [HD.out]
        exact ⟨rfl, _, hNet, Upd.refl _ hn⟩
      | false =>
        rw [hsh] at e5
        by_cases hfull : 131072 < c.p1.way.length + bs.length
        · have hd : n.send id node bs = (n, 7) := by simp [Net.send, hg, hend, Conn.to, hsh, hfull]
          have HD := hid hd
          clear hd hend hg hlk hsh
          go_enter Try.func14, Try.ntmps14
          go_wp2_with (first
            | (go_at_call 31; refine HL.out.mono ?_; rintro e w' ⟨rfl, rfl⟩))
          go_ret
          rw [HD.out]
          exact ⟨rfl, _, hNet, Upd.refl _ hn⟩
        · have hd : n.send id node bs = (n.put id { c with p1 := { c.p1 with way := c.p1.way ++ bs } }, 0) := by
            simp only [Net.send, hg, hend, Conn.to, hsh, Conn.set]
            simp [hfull, hsh]
          have HD := hid hd
          clear hd hend hg hlk hsh
          obtain ⟨i0, hi, hz0, hz1, hz2⟩ := info_parts Try.info5
          have HI := hid (And.intro hi (And.intro hz0 (And.intro hz1 hz2)))
          clear hi hz0 hz1 hz2
          have HB := hid (And.intro hb (And.intro h0 (And.intro h1 (And.intro hnd hput))))
          clear hb h0 h1 hnd hput
          go_enter Try.func14, Try.ntmps14
          go_wp2_with (first
            | (go_at_call 31; refine HL.out.mono ?_; rintro e w' ⟨rfl, rfl⟩)
            | (at_builtin; refine wpList_append_rd _ rfl _ _ 30 rfl 5 i0 (.int .u8 0) 1 Try.underlying30 HI.out.1 HI.out.2.1 HI.out.2.2.1 HI.out.2.2.2 rfl _ c.p1.way.length (bytesV c.p1.way) F1 rfl HB.out.2.2.1 S (.slice A bs.length cp) (bytesV bs) rfl hv (bytesV_one bs) ?c1 ?c2 ?c3))
          case c1 => rw [bytesV_length]; omega
          case c2 => rw [bytesV_length]; unfold maxLen; omega
          case c3 =>
            intro v' w1 F' hown hu
            obtain ⟨hb, h0, h1, hnd, hput⟩ := HB.out
            rw [bytesV_length, ← List.length_append, ← bytesV_append] at hown
            obtain ⟨A', k', rfl⟩ := hown.form
            obtain ⟨g1, g2, g3, g4⟩ := conn_set1 hb h0 hnd hown hu
            obtain ⟨Fn, hp1, hp2, _⟩ := hput _ _ _ g1 g2
            simp only [List.length_append] at hp1 hp2
            have HP := hid (And.intro hp1 hp2)
            clear hown hu hb h0 h1 hnd hput g1 g2 hp1 hp2
            go_wp2
            go_ret
            rw [HD.out]
            exact ⟨rfl, Fn, HP.out⟩
    · rw [hend, lookOf_1] at HL0
      have HL := hid HL0
      clear HL0
      cases hsh : c.p0.shut with
      | true =>
        have hd : n.send id node bs = (n, 31) := by simp [Net.send, hg, hend, Conn.to, hsh]
        have HD := hid hd
        rw [hsh] at e3
        clear hd hend hg hlk hsh
        go_enter Try.func14, Try.ntmps14
        go_wp2_with (first
          | (go_at_call 31; refine HL.out.mono ?_; rintro e w' ⟨rfl, rfl⟩))
        go_ret
        rw [HD.out]
        exact ⟨rfl, _, hNet, Upd.refl _ hn⟩
      | false =>
        rw [hsh] at e3
        by_cases hfull : 131072 < c.p0.way.length + bs.length
        · have hd : n.send id node bs = (n, 7) := by simp [Net.send, hg, hend, Conn.to, hsh, hfull]
          have HD := hid hd
          clear hd hend hg hlk hsh
          go_enter Try.func14, Try.ntmps14
          go_wp2_with (first
            | (go_at_call 31; refine HL.out.mono ?_; rintro e w' ⟨rfl, rfl⟩))
          go_ret
          rw [HD.out]
          exact ⟨rfl, _, hNet, Upd.refl _ hn⟩
        · have hd : n.send id node bs = (n.put id { c with p0 := { c.p0 with way := c.p0.way ++ bs } }, 0) := by
            simp only [Net.send, hg, hend, Conn.to, hsh, Conn.set]
            simp [hfull, hsh]
          have HD := hid hd
          clear hd hend hg hlk hsh
          obtain ⟨i0, hi, hz0, hz1, hz2⟩ := info_parts Try.info5
          have HI := hid (And.intro hi (And.intro hz0 (And.intro hz1 hz2)))
          clear hi hz0 hz1 hz2
          have HB := hid (And.intro hb (And.intro h0 (And.intro h1 (And.intro hnd hput))))
          clear hb h0 h1 hnd hput
          go_enter Try.func14, Try.ntmps14
          go_wp2_with (first
            | (go_at_call 31; refine HL.out.mono ?_; rintro e w' ⟨rfl, rfl⟩)
            | (at_builtin; refine wpList_append_rd _ rfl _ _ 30 rfl 5 i0 (.int .u8 0) 1 Try.underlying30 HI.out.1 HI.out.2.1 HI.out.2.2.1 HI.out.2.2.2 rfl _ c.p0.way.length (bytesV c.p0.way) F0 rfl HB.out.2.1 S (.slice A bs.length cp) (bytesV bs) rfl hv (bytesV_one bs) ?c1 ?c2 ?c3))
          case c1 => rw [bytesV_length]; omega
          case c2 => rw [bytesV_length]; unfold maxLen; omega
          case c3 =>
            intro v' w1 F' hown hu
            obtain ⟨hb, h0, h1, hnd, hput⟩ := HB.out
            rw [bytesV_length, ← List.length_append, ← bytesV_append] at hown
            obtain ⟨A', k', rfl⟩ := hown.form
            obtain ⟨g1, g2, g3, g4⟩ := conn_set0 hb h1 hnd hown hu
            obtain ⟨Fn, hp1, hp2, _⟩ := hput _ _ _ g1 g2
            simp only [List.length_append] at hp1 hp2
            have HP := hid (And.intro hp1 hp2)
            clear hown hu hb h0 h1 hnd hput g1 g2 hp1 hp2
            go_wp2
            go_ret
            rw [HD.out]
            exact ⟨rfl, Fn, HP.out⟩
end Go.Proofs.Ytcdeknbbeghljaa
