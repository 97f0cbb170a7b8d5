/- link: Carry, Close. -/
import Derived.Test.YtcdeknbbeghljaaL5
namespace Go.Proofs.Ytcdeknbbeghljaa
open Go.RowKit
open Go.ChangeMaps (setBlock)
open Go.Maps (Keyed)
open Link

theorem Link.get_put {n : Net} {id : Int} {c c' : Conn} (hok : n.Ok) (hg : n.get id = some c) : (n.put id c').get id = some c' := by
  obtain ⟨l1, l2, hs⟩ := split_of_get hg
  refine get_split (put_split hs hok.apart) ?_
  have := hok.apart
  rw [put_split hs hok.apart]
  rw [hs] at this
  simpa using this

theorem Link.put_put {n : Net} {id : Int} {c c' c'' : Conn} (hok : n.Ok) (hg : n.get id = some c) : ((n.put id c').put id c'') = n.put id c'' := by
  unfold Net.put
  simp only [List.map_map]
  congr 1
  refine List.map_congr_left fun p _ => ?_
  simp only [Function.comp]
  by_cases h : (p.1 == id) = true
  · simp [h]
  · simp [h]

theorem Link.put_del {n : Net} {id : Int} {c' : Conn} : (n.put id c').del id = n.del id := by
  unfold Net.put Net.del
  congr 1
  simp only [List.filter_map]
  have : (n.conns.filter ((fun p => p.1 != id) ∘ fun p => if (p.1 == id) = true then (id, c') else p)) = n.conns.filter fun p => p.1 != id := by
    refine List.filter_congr fun p _ => ?_
    simp only [Function.comp]
    by_cases h : (p.1 == id) = true
    · simp only [h, if_true, bne, beq_self_eq_true]
    · simp only [h, Bool.false_eq_true, if_false]
  rw [this]
  conv => rhs; rw [← List.map_id (List.filter (fun p => p.1 != id) n.conns)]
  refine List.map_congr_left fun p hp => ?_
  have := (List.mem_filter.1 hp).2
  simp only [bne_iff_ne, ne_eq] at this
  simp [this]

theorem Link.Net.Ok.put {n : Net} (h : n.Ok) {id : Int} {c c' : Conn} (hg : n.get id = some c) (h0 : c'.p0.way.length ≤ 131072) (h1 : c'.p1.way.length ≤ 131072) (hu : c'.a ≠ c'.b) : (n.put id c').Ok := by
  obtain ⟨l1, l2, hs⟩ := split_of_get hg
  have hp := put_split (c' := c') hs h.apart
  have hi := h.ids
  have ha := h.apart
  have hf := h.fits
  have hw := h.few
  have hk := h.unlike
  rw [hs] at hi ha hf hw hk
  refine ⟨h.low, ?_, ?_, ?_, ?_, ?_⟩
  · rw [hp]
    intro p hp'
    simp only [List.mem_append, List.mem_cons] at hp' hi
    rcases hp' with h1 | rfl | h1
    · exact hi p (.inl h1)
    · exact hi (id, c) (.inr (.inl rfl))
    · exact hi p (.inr (.inr h1))
  · rw [hp]; simpa using ha
  · rw [hp]
    intro p hp'
    simp only [List.mem_append, List.mem_cons] at hp' hf
    rcases hp' with h2 | rfl | h2
    · exact hf p (.inl h2)
    · exact ⟨h0, h1⟩
    · exact hf p (.inr (.inr h2))
  · rw [hp]; simpa using hw
  · rw [hp]
    intro p hp'
    simp only [List.mem_append, List.mem_cons] at hp' hk
    rcases hp' with h2 | rfl | h2
    · exact hk p (.inl h2)
    · exact hu
    · exact hk p (.inr (.inr h2))

theorem Link.Net.Ok.del {n : Net} (h : n.Ok) (id : Int) : (n.del id).Ok :=
  ⟨h.low, fun p hp => h.ids p (List.mem_filter.1 hp).1, h.apart.sublist ((List.filter_sublist).map _), fun p hp => h.fits p (List.mem_filter.1 hp).1, Nat.le_trans (List.length_filter_le _ _) h.few, fun p hp => h.unlike p (List.mem_filter.1 hp).1⟩

theorem Link.put_last (n : Net) (id : Int) (c : Conn) : (n.put id c).last = n.last := rfl

/-- The rest of Carry and of Close, behind the store: 'rest', over the net as it is then. -/
theorem rest_behind (p b : Nat) (n : Net) (w : World) (F F1 : List Nat) (id : Int) (c c' : Conn) (w1 : World) (hok : n.Ok) (hl : n.last ≤ 1000000001) (hg : n.get id = some c) (h0 : c'.p0.way.length ≤ 131072) (h1 : c'.p1.way.length ≤ 131072) (hun : c'.a ≠ c'.b)
    (hNet : NetAt p (n.put id c') w1 F1) (hu : Upd w w1 F F1) {Fx : List Nat} (hc : ConnR c' (.pointer (some ⟨b, 0, none⟩)) w1 Fx) :
    Calls Try.prog 33 #[.pointer (some ⟨p, 0, none⟩), .int .i64 id, .pointer (some ⟨b, 0, none⟩)] w1 fun e w' => e = .returned (.tuple #[]) ∧ ∃ F', NetAt p (n.rest id c') w' F' ∧ Upd w w' F F' ∧ Upd w1 w' F1 F' := by
  obtain ⟨b', s0, s1, G0, G1, hv, hb, o0, o1, rfl⟩ := hc
  injection hv with hv
  injection hv with hv
  injection hv with hv
  subst hv
  have hok' := hok.put (c' := c') hg h0 h1 hun
  refine (rest_net p b (n.put id c') w1 F1 id c' s0 s1 hNet hu.nodup hok' (by rw [put_last]; exact hl) (get_put hok hg) hb (o0.form) (o1.form)).mono ?_
  rintro e w' ⟨rfl, F', hN, hu'⟩
  refine ⟨rfl, F', ?_, hu.trans hu', hu'⟩
  unfold Net.rest
  rw [put_del] at hN
  exact hN

set_option maxRecDepth 100000 in
set_option maxHeartbeats 4000000 in
theorem close_any (p : Nat) (n : Net) (w : World) (F : List Nat) (id node : Int) (hNet : NetAt p n w F) (hn : F.Nodup) (hok : n.Ok) (hl : n.last ≤ 1000000001) (hwf : (Lit.int .i64 id).wf = true) :
    Calls Try.prog 16 #[.pointer (some ⟨p, 0, none⟩), .int .i64 id, .int .i64 node] w fun e w' =>
      e = .returned (.int .i64 (n.close id node).2) ∧ ∃ F', NetAt p (n.close id node).1 w' F' ∧ Upd w w' F F' := by
  cases hg : n.get id with
  | none =>
    have hd : n.close id node = (n, 30) := by simp [Net.close, hg]
    obtain ⟨bm, c0, hlk⟩ := hNet.lookup_none hwf hg
    have HL := hid (look_none p bm w id node c0 hlk)
    have HD := hid hd
    clear hd hlk hg
    go_enter Try.func16, Try.ntmps16
    go_wp2_with (first
      | (go_at_call 31; refine HL.out.mono ?_; rintro e w' ⟨rfl, rfl⟩))
    go_ret
    rw [HD.out]
    exact ⟨rfl, _, hNet, Upd.refl _ hn⟩
  | some c =>
    obtain ⟨bm, b, s0, s1, F0, F1, c0, hlk, hb, h0, h1, hnd, hsub, hput⟩ := hNet.focus hn hok hl hg
    have HL0 := look_some p bm b w id node c s0 s1 c0 hlk hb
    obtain ⟨A0, k0, rfl⟩ := h0.form
    obtain ⟨A1, k1, rfl⟩ := h1.form
    have e3 : w.cell? ⟨b, 3, none⟩ = some (.bool c.p0.shut) := hb.cell rfl
    have e5 : w.cell? ⟨b, 5, none⟩ = some (.bool c.p1.shut) := hb.cell rfl
    have f3 := hb.frozen 3
    have f5 := hb.frozen 5
    have f0 := (hok.fits (id, c) (by obtain ⟨l1, l2, hs⟩ := split_of_get hg; rw [hs]; simp)).1
    have f1 := (hok.fits (id, c) (by obtain ⟨l1, l2, hs⟩ := split_of_get hg; rw [hs]; simp)).2
    have fu := hok.unlike (id, c) (by obtain ⟨l1, l2, hs⟩ := split_of_get hg; rw [hs]; simp)
    simp only at f0 f1 fu
    rcases end_cases c node with hend | hend | hend
    · have hd : n.close id node = (n, 1) := by simp [Net.close, hg, hend]
      have HD := hid hd
      rw [hend, lookOf_m1] at HL0
      have HL := hid HL0
      clear HL0
      clear hd hend hg hlk fu
      go_enter Try.func16, Try.ntmps16
      go_wp2_with (first
        | (go_at_call 31; refine HL.out.mono ?_; rintro e w' ⟨rfl, rfl⟩))
      go_ret
      rw [HD.out]
      exact ⟨rfl, _, hNet, Upd.refl _ hn⟩
    · rw [hend, lookOf_0] at HL0
      have HL := hid HL0
      clear HL0
      cases hsh : c.p1.shut with
      | true =>
        have hd : n.close id node = (n, 31) := by simp [Net.close, hg, hend, Conn.to, hsh]
        have HD := hid hd
        rw [hsh] at e5
        clear hd hend hg hlk hsh fu
        go_enter Try.func16, Try.ntmps16
        go_wp2_with (first
          | (go_at_call 31; refine HL.out.mono ?_; rintro e w' ⟨rfl, rfl⟩))
        go_ret
        rw [HD.out]
        exact ⟨rfl, _, hNet, Upd.refl _ hn⟩
      | false =>
        rw [hsh] at e5
        have hd : n.close id node = (n.rest id { c with p1 := { c.p1 with shut := true } }, 0) := by
          simp only [Net.close, hg, hend, Conn.to, hsh, Conn.set]
          simp [hsh]
        have HD := hid hd
        have hcon : ConnR { c with p1 := { c.p1 with shut := true } } (.pointer (some ⟨b, 0, none⟩)) (w.setCell ⟨b, 5, none⟩ (.bool true)) (b :: (F0 ++ F1)) := by
          have hnd' := hnd
          rw [List.nodup_cons] at hnd'
          exact ⟨b, _, _, F0, F1, rfl, hb.set 5 (.bool true), h0.keep (fun k hk => Below.heap_setCell _ _ _ _ (by rintro rfl; exact hnd'.1 (by simp [hk]))), h1.keep (fun k hk => Below.heap_setCell _ _ _ _ (by rintro rfl; exact hnd'.1 (by simp [hk]))), rfl⟩
        have hup : Upd w (w.setCell ⟨b, 5, none⟩ (.bool true)) (b :: (F0 ++ F1)) (b :: (F0 ++ F1)) := ⟨(Mod.refl _ w).setCell (fun _ => by simp) _, hnd, fun _ h => .inl h⟩
        obtain ⟨F', hN, hu, _⟩ := hput _ _ _ hcon hup
        have HR := hid (rest_behind p b n w F F' id c { c with p1 := { c.p1 with shut := true } } _ hok hl hg f0 f1 fu hN hu hcon)
        clear hd hend hg hlk hsh fu hput hb h0 h1 hcon hup hN hu
        go_enter Try.func16, Try.ntmps16
        go_wp2_with (first
          | (go_at_call 31; refine HL.out.mono ?_; rintro e w' ⟨rfl, rfl⟩)
          | (go_at_call 33; refine HR.out.mono ?_; rintro e w' ⟨rfl, F'', h1, h2, _⟩))
        go_ret
        rw [HD.out]
        exact ⟨rfl, _, h1, h2⟩
    · rw [hend, lookOf_1] at HL0
      have HL := hid HL0
      clear HL0
      cases hsh : c.p0.shut with
      | true =>
        have hd : n.close id node = (n, 31) := by simp [Net.close, hg, hend, Conn.to, hsh]
        have HD := hid hd
        rw [hsh] at e3
        clear hd hend hg hlk hsh fu
        go_enter Try.func16, Try.ntmps16
        go_wp2_with (first
          | (go_at_call 31; refine HL.out.mono ?_; rintro e w' ⟨rfl, rfl⟩))
        go_ret
        rw [HD.out]
        exact ⟨rfl, _, hNet, Upd.refl _ hn⟩
      | false =>
        rw [hsh] at e3
        have hd : n.close id node = (n.rest id { c with p0 := { c.p0 with shut := true } }, 0) := by
          simp only [Net.close, hg, hend, Conn.to, hsh, Conn.set]
          simp [hsh]
        have HD := hid hd
        have hcon : ConnR { c with p0 := { c.p0 with shut := true } } (.pointer (some ⟨b, 0, none⟩)) (w.setCell ⟨b, 3, none⟩ (.bool true)) (b :: (F0 ++ F1)) := by
          have hnd' := hnd
          rw [List.nodup_cons] at hnd'
          exact ⟨b, _, _, F0, F1, rfl, hb.set 3 (.bool true), h0.keep (fun k hk => Below.heap_setCell _ _ _ _ (by rintro rfl; exact hnd'.1 (by simp [hk]))), h1.keep (fun k hk => Below.heap_setCell _ _ _ _ (by rintro rfl; exact hnd'.1 (by simp [hk]))), rfl⟩
        have hup : Upd w (w.setCell ⟨b, 3, none⟩ (.bool true)) (b :: (F0 ++ F1)) (b :: (F0 ++ F1)) := ⟨(Mod.refl _ w).setCell (fun _ => by simp) _, hnd, fun _ h => .inl h⟩
        obtain ⟨F', hN, hu, _⟩ := hput _ _ _ hcon hup
        have HR := hid (rest_behind p b n w F F' id c { c with p0 := { c.p0 with shut := true } } _ hok hl hg f0 f1 fu hN hu hcon)
        clear hd hend hg hlk hsh fu hput hb h0 h1 hcon hup hN hu
        go_enter Try.func16, Try.ntmps16
        go_wp2_with (first
          | (go_at_call 31; refine HL.out.mono ?_; rintro e w' ⟨rfl, rfl⟩)
          | (go_at_call 33; refine HR.out.mono ?_; rintro e w' ⟨rfl, F'', h1, h2, _⟩))
        go_ret
        rw [HD.out]
        exact ⟨rfl, _, h1, h2⟩

/-- two rows of the call's own, one behind the other. -/
theorem Upd.over {w w1 w2 : World} {F0 F1 F2 : List Nat} (h : Upd w w1 [] F1) (k : Upd w1 w2 [] F2) : Upd w w2 F0 F2 :=
  ⟨(h.mod.trans k.mod (fun _ _ h => h)).mono (fun _ _ h => by cases h), k.nodup, fun b hb => .inr (Nat.le_trans h.mod.size ((k.sub b hb).resolve_left (by simp)))⟩

theorem length_bound {l : List UInt8} (h : l.length ≤ 131072) (k : Nat) : (l.take k).length ≤ 70368744177664 ∧ (l.drop k).length ≤ 70368744177664 := by
  constructor
  · rw [List.length_take]; omega
  · rw [List.length_drop]; omega

theorem carried_own {p b o : Nat} {n n' : Net} {w w1 w2 w' : World} {F F0 F1 F2 Fo Fn F'' : List Nat} {c : Conn} {s0 s1 v1 v2 : Value} {lo l : List UInt8} (hNet : NetAt p n w F)
    (hb : Blk w b 73 (connCells c s0 s1)) (h0 : Own 5 1 s0 c.p0.way.length (bytesV c.p0.way) w F0) (h1 : Own 5 1 s1 c.p1.way.length (bytesV c.p1.way) w F1)
    (ho : Own 5 1 v1 lo.length (bytesV lo) w1 Fo) (hu1 : Upd w w1 [] Fo) (ho2 : Own 5 1 v2 l.length (bytesV l) w2 F2) (hu2 : Upd w1 w2 [] F2)
    (hp3 : ∀ k ∈ Fn, k ∈ F ∨ k ∈ b :: (F2 ++ F1) ∨ k ∈ b :: (F0 ++ F2)) (n1 : NetAt p n' w' F'') (n2 : Upd w w' F F'') (n3 : Upd (w2.setCell ⟨b, o, none⟩ v2) w' Fn F'') :
    Own 5 1 v1 lo.length (bytesV lo) w' Fo ∧ NetAt p n' w' F'' ∧ Upd w w' F (Fo ++ F'') := by
  have hFl := (NetAt.loc p).lt hNet
  have hge : ∀ k ∈ Fo, w.heap.size ≤ k := fun k hk => (hu1.sub k hk).resolve_left (by simp)
  have hlt := ho.lt
  have hge2 : ∀ k ∈ F2, w1.heap.size ≤ k := fun k hk => (hu2.sub k hk).resolve_left (by simp)
  have hd : ∀ k ∈ Fo, k ∉ Fn := fun k hk hkn => by
    have g1 := hge k hk
    have g2 := hlt k hk
    rcases hp3 k hkn with h | h | h
    · have := hFl k h; omega
    · rcases List.mem_cons.1 h with rfl | h
      · have := hb.lt; omega
      · rcases List.mem_append.1 h with h | h
        · have := hge2 k h; omega
        · have := h1.lt k h; omega
    · rcases List.mem_cons.1 h with rfl | h
      · have := hb.lt; omega
      · rcases List.mem_append.1 h with h | h
        · have := h0.lt k h; omega
        · have := hge2 k h; omega
  have hsz : ∀ k ∈ Fo, k < (w2.setCell ⟨b, o, none⟩ v2).heap.size := fun k hk => by
    rw [World.size_setCell]
    exact Nat.lt_of_lt_of_le (hlt k hk) hu2.mod.size
  obtain ⟨k1, k2⟩ := n3.other hd hsz
  have ho3 : Own 5 1 v1 lo.length (bytesV lo) (w2.setCell ⟨b, o, none⟩ v2) Fo := (ho.mod hu2.mod (by simp)).keep (fun k hk => Below.heap_setCell _ _ _ _ (by
    rintro rfl
    have := hge _ hk
    have := hb.lt
    omega))
  refine ⟨ho3.keep k1, n1, n2.mod, ?_, fun k hk => ?_⟩
  · rw [List.nodup_append]
    exact ⟨ho.nodup, n2.nodup, fun x hx y hy e => by subst e; exact k2 x hx hy⟩
  · rcases List.mem_append.1 hk with hk | hk
    · exact .inr (hge k hk)
    · exact n2.sub k hk

/-- what stands behind the two clones of Carry, the way being that to end 0. -/
theorem carried_behind (p b : Nat) (n : Net) (w : World) (F F0 F1 : List Nat) (id : Int) (c : Conn) {s0 s1 v1 v2 : Value} {Fo F2 : List Nat} {lo l : List UInt8} (w1 w2 : World) (hok : n.Ok) (hl : n.last ≤ 1000000001) (hg : n.get id = some c) (hNet : NetAt p n w F)
    (hb : Blk w b 73 (connCells c s0 s1)) (h0 : Own 5 1 s0 c.p0.way.length (bytesV c.p0.way) w F0) (h1 : Own 5 1 s1 c.p1.way.length (bytesV c.p1.way) w F1) (hnd : (b :: (F0 ++ F1)).Nodup)
    (hput : ∀ w' c' Fx', ConnR c' (.pointer (some ⟨b, 0, none⟩)) w' Fx' → Upd w w' (b :: (F0 ++ F1)) Fx' → ∃ F', NetAt p (n.put id c') w' F' ∧ Upd w w' F F' ∧ ∀ k ∈ F', k ∈ F ∨ k ∈ Fx')
    (fu : c.a ≠ c.b) (ho : Own 5 1 v1 lo.length (bytesV lo) w1 Fo) (hu1 : Upd w w1 [] Fo) (ho2 : Own 5 1 v2 l.length (bytesV l) w2 F2) (hu2 : Upd w1 w2 [] F2) (hlen : l.length ≤ 131072) (f1 : c.p1.way.length ≤ 131072) :
    w2.cell? ⟨b, 2, none⟩ = some s0 ∧ w2.frozen? ⟨b, 2, none⟩ = false ∧
    Calls Try.prog 33 #[.pointer (some ⟨p, 0, none⟩), .int .i64 id, .pointer (some ⟨b, 0, none⟩)] (w2.setCell ⟨b, 2, none⟩ v2) fun e w' => e = .returned (.tuple #[]) ∧
      ∃ F'', Own 5 1 v1 lo.length (bytesV lo) w' Fo ∧ NetAt p (n.rest id { c with p0 := { c.p0 with way := l } }) w' F'' ∧ Upd w w' F (Fo ++ F'') := by
  obtain ⟨g1, g2, g3, g4⟩ := conn_set0 hb h1 hnd ho2 (Upd.over hu1 hu2)
  obtain ⟨Fn, hp1, hp2, hp3⟩ := hput _ _ _ g1 g2
  refine ⟨g3, g4, (rest_behind p b n w F Fn id c { c with p0 := { c.p0 with way := l } } _ hok hl hg hlen f1 fu hp1 hp2 g1).mono ?_⟩
  rintro e w' ⟨rfl, F'', n1, n2, n3⟩
  exact ⟨rfl, F'', carried_own hNet hb h0 h1 ho hu1 ho2 hu2 (fun k hk => (hp3 k hk).imp (fun h => h) .inl) n1 n2 n3⟩

/-- what stands behind the two clones of Carry, the way being that to end 1. -/
theorem carried_behind1 (p b : Nat) (n : Net) (w : World) (F F0 F1 : List Nat) (id : Int) (c : Conn) {s0 s1 v1 v2 : Value} {Fo F2 : List Nat} {lo l : List UInt8} (w1 w2 : World) (hok : n.Ok) (hl : n.last ≤ 1000000001) (hg : n.get id = some c) (hNet : NetAt p n w F)
    (hb : Blk w b 73 (connCells c s0 s1)) (h0 : Own 5 1 s0 c.p0.way.length (bytesV c.p0.way) w F0) (h1 : Own 5 1 s1 c.p1.way.length (bytesV c.p1.way) w F1) (hnd : (b :: (F0 ++ F1)).Nodup)
    (hput : ∀ w' c' Fx', ConnR c' (.pointer (some ⟨b, 0, none⟩)) w' Fx' → Upd w w' (b :: (F0 ++ F1)) Fx' → ∃ F', NetAt p (n.put id c') w' F' ∧ Upd w w' F F' ∧ ∀ k ∈ F', k ∈ F ∨ k ∈ Fx')
    (fu : c.a ≠ c.b) (ho : Own 5 1 v1 lo.length (bytesV lo) w1 Fo) (hu1 : Upd w w1 [] Fo) (ho2 : Own 5 1 v2 l.length (bytesV l) w2 F2) (hu2 : Upd w1 w2 [] F2) (hlen : l.length ≤ 131072) (f0 : c.p0.way.length ≤ 131072) :
    w2.cell? ⟨b, 4, none⟩ = some s1 ∧ w2.frozen? ⟨b, 4, none⟩ = false ∧
    Calls Try.prog 33 #[.pointer (some ⟨p, 0, none⟩), .int .i64 id, .pointer (some ⟨b, 0, none⟩)] (w2.setCell ⟨b, 4, none⟩ v2) fun e w' => e = .returned (.tuple #[]) ∧
      ∃ F'', Own 5 1 v1 lo.length (bytesV lo) w' Fo ∧ NetAt p (n.rest id { c with p1 := { c.p1 with way := l } }) w' F'' ∧ Upd w w' F (Fo ++ F'') := by
  obtain ⟨g1, g2, g3, g4⟩ := conn_set1 hb h0 hnd ho2 (Upd.over hu1 hu2)
  obtain ⟨Fn, hp1, hp2, hp3⟩ := hput _ _ _ g1 g2
  refine ⟨g3, g4, (rest_behind p b n w F Fn id c { c with p1 := { c.p1 with way := l } } _ hok hl hg f0 hlen fu hp1 hp2 g1).mono ?_⟩
  rintro e w' ⟨rfl, F'', n1, n2, n3⟩
  exact ⟨rfl, F'', carried_own hNet hb h0 h1 ho hu1 ho2 hu2 (fun k hk => (hp3 k hk).imp (fun h => h) .inr) n1 n2 n3⟩

set_option maxRecDepth 100000 in
set_option maxHeartbeats 8000000 in
theorem carry_any (p : Nat) (n : Net) (w : World) (F : List Nat) (id node most : Int) (hNet : NetAt p n w F) (hn : F.Nodup) (hok : n.Ok) (hl : n.last ≤ 1000000001) (hwf : (Lit.int .i64 id).wf = true) :
    Calls Try.prog 15 #[.pointer (some ⟨p, 0, none⟩), .int .i64 id, .int .i64 node, .int .i64 most] w fun e w' => ∃ vo Fo F',
      e = .returned (.tuple #[vo, .int .i64 (n.carry id node most).2.2]) ∧ Own 5 1 vo (n.carry id node most).2.1.length (bytesV (n.carry id node most).2.1) w' Fo ∧ NetAt p (n.carry id node most).1 w' F' ∧ Upd w w' F (Fo ++ F') := by
  cases hg : n.get id with
  | none =>
    have hd : n.carry id node most = (n, [], 30) := by simp [Net.carry, hg]
    obtain ⟨bm, c0, hlk⟩ := hNet.lookup_none hwf hg
    have HL := hid (look_none p bm w id node c0 hlk)
    have HD := hid hd
    clear hd hlk hg
    go_enter Try.func15, Try.ntmps15
    go_wp2_with (first
      | (go_at_call 31; refine HL.out.mono ?_; rintro e w' ⟨rfl, rfl⟩))
    go_ret2
    rw [HD.out]
    exact ⟨_, [], F, rfl, Own.nil _ _ _, hNet, Upd.refl _ hn⟩
  | some c =>
    obtain ⟨bm, b, s0, s1, F0, F1, c0, hlk, hb, h0, h1, hnd, hsub, hput⟩ := hNet.focus hn hok hl hg
    have HL0 := look_some p bm b w id node c s0 s1 c0 hlk hb
    have r0 := h0.rd
    have r1 := h1.rd
    obtain ⟨A0, k0, rfl⟩ := h0.form
    obtain ⟨A1, k1, rfl⟩ := h1.form
    have q0 : c.p0.way.length ≤ k0 := by
      obtain ⟨_, _, hv, hc, _⟩ := r0
      injection hv with _ _ e
      rw [e, ← bytesV_length c.p0.way]
      exact hc
    have q1 : c.p1.way.length ≤ k1 := by
      obtain ⟨_, _, hv, hc, _⟩ := r1
      injection hv with _ _ e
      rw [e, ← bytesV_length c.p1.way]
      exact hc
    have e2 : w.cell? ⟨b, 2, none⟩ = some (.slice A0 c.p0.way.length k0) := hb.cell rfl
    have e4 : w.cell? ⟨b, 4, none⟩ = some (.slice A1 c.p1.way.length k1) := hb.cell rfl
    have f0 := (hok.fits (id, c) (by obtain ⟨l1, l2, hs⟩ := split_of_get hg; rw [hs]; simp)).1
    have f1 := (hok.fits (id, c) (by obtain ⟨l1, l2, hs⟩ := split_of_get hg; rw [hs]; simp)).2
    have fu := hok.unlike (id, c) (by obtain ⟨l1, l2, hs⟩ := split_of_get hg; rw [hs]; simp)
    simp only at f0 f1 fu
    rcases end_cases c node with hend | hend | hend
    · have hd : n.carry id node most = (n, [], 1) := by simp [Net.carry, hg, hend]
      have HD := hid hd
      rw [hend, lookOf_m1] at HL0
      have HL := hid HL0
      clear HL0
      clear hd hend hg hlk fu
      go_enter Try.func15, Try.ntmps15
      go_wp2_with (first
        | (go_at_call 31; refine HL.out.mono ?_; rintro e w' ⟨rfl, rfl⟩))
      go_ret2
      rw [HD.out]
      exact ⟨_, [], F, rfl, Own.nil _ _ _, hNet, Upd.refl _ hn⟩
    · rw [hend, lookOf_0] at HL0
      have HL := hid HL0
      clear HL0
      by_cases hneg : most < 0
      · have hd : n.carry id node most = (n, [], 1) := by simp [Net.carry, hg, hend, hneg]
        have HD := hid hd
        clear hd hend hg hlk fu
        go_enter Try.func15, Try.ntmps15
        go_wp2_with (first
          | (go_at_call 31; refine HL.out.mono ?_; rintro e w' ⟨rfl, rfl⟩))
        go_ret2
        rw [HD.out]
        exact ⟨_, [], F, rfl, Own.nil _ _ _, hNet, Upd.refl _ hn⟩
      · obtain ⟨m, rfl⟩ := Int.eq_ofNat_of_zero_le (by omega : 0 ≤ most)
        obtain ⟨k, hk⟩ : ∃ k, k = min m c.p0.way.length := ⟨_, rfl⟩
        have hd : n.carry id node (m : Int) = (n.rest id { c with p0 := { c.p0 with way := c.p0.way.drop k } }, c.p0.way.take k, 0) := by
          simp only [Net.carry, hg, hend, Conn.to, Conn.set]
          simp [hk]
        have HD := hid hd
        have hkl : k ≤ c.p0.way.length := by omega
        have HK : (m ≤ c.p0.way.length ∧ k = m) ∨ (c.p0.way.length < m ∧ k = c.p0.way.length) := by omega
        clear hk
        have HB := hid (And.intro hb (And.intro h0 (And.intro h1 (And.intro hnd (And.intro hput (And.intro fu (And.intro hg (And.intro hsub (And.intro r0 r1)))))))))
        have hNB := length_bound f0 k
        clear hd hend hg hlk fu hput hb h0 h1 hnd hsub r0 r1 hneg
        rcases HK with ⟨hle, rfl⟩ | ⟨hle, rfl⟩
        · go_enter Try.func15, Try.ntmps15
          go_wp2_with (first
            | (go_at_call 31; refine HL.out.mono ?_; rintro e w' ⟨rfl, rfl⟩))
          obtain ⟨hb, h0, h1, hnd, hput, fu, hg, hsub, r0, r1⟩ := HB.out
          refine (clone_bytes (· ∈ F0) _ _ (c.p0.way.take _) (by rw [bytesV_take]; exact r0.take hkl) hNB.1).mono ?_
          rintro e w1 ⟨v1, Fo, rfl, ho, hu1⟩
          have hb1 := hb.mod hu1.mod (by simp)
          have e2' : w1.cell? ⟨b, 2, none⟩ = some (.slice A0 c.p0.way.length k0) := hb1.cell rfl
          have r0' := r0.mod hu1.mod (by simp)
          have rd := hid (r0'.drop hkl)
          have HA := hid (And.intro ho hu1)
          clear hb h0 h1 hnd hput fu hg hsub r0 r1 ho hu1 hb1 r0'
          go_wp2_with fail
          all_goals
            refine (clone_bytes (· ∈ F0) _ _ (c.p0.way.drop _) (by have h := rd.out; rw [bytesV_drop]; simpa [*] using h) hNB.2).mono ?_
            rintro e w2 ⟨v2, F2, rfl, ho2, hu2⟩
            obtain ⟨hb, h0, h1, hnd, hput, fu, hg, hsub, r0, r1⟩ := HB.out
            obtain ⟨ho, hu1⟩ := HA.out
            have HE := carried_behind p b n w F F0 F1 id c w1 w2 hok hl hg hNet hb h0 h1 hnd hput fu ho hu1 ho2 hu2 (by have := hNB.2; rw [List.length_drop]; omega) f1
            obtain ⟨A2, k2, hv2⟩ := ho2.form
            rw [List.length_drop] at hv2
            subst hv2
            obtain ⟨g3, g4, HR⟩ := HE
            have HR := hid HR
            clear hb h0 h1 hnd hput fu hg hsub r0 r1 ho hu1 ho2 hu2
            go_wp2_with (first
              | (go_at_call 33; refine HR.out.mono ?_; rintro e w' ⟨rfl, HQ⟩))
            go_ret2
            rw [HD.out]
            obtain ⟨F'', q1, q2, q3⟩ := HQ
            exact ⟨_, Fo, F'', rfl, q1, q2, q3⟩
        · rw [List.drop_length, List.take_length] at HD
          rw [List.take_length] at hNB
          go_enter Try.func15, Try.ntmps15
          go_wp2_with (first
            | (go_at_call 31; refine HL.out.mono ?_; rintro e w' ⟨rfl, rfl⟩))
          obtain ⟨hb, h0, h1, hnd, hput, fu, hg, hsub, r0, r1⟩ := HB.out
          refine (clone_bytes (· ∈ F0) _ _ (c.p0.way) (by have h := r0.take hkl; rw [← bytesV_take, List.take_length] at h; exact h) hNB.1).mono ?_
          rintro e w1 ⟨v1, Fo, rfl, ho, hu1⟩
          have hb1 := hb.mod hu1.mod (by simp)
          have e2' : w1.cell? ⟨b, 2, none⟩ = some (.slice A0 c.p0.way.length k0) := hb1.cell rfl
          have r0' := r0.mod hu1.mod (by simp)
          have rd := hid (r0'.drop hkl)
          have HA := hid (And.intro ho hu1)
          clear hb h0 h1 hnd hput fu hg hsub r0 r1 ho hu1 hb1 r0'
          go_wp2_with fail
          all_goals
            refine (clone_bytes (· ∈ F0) _ _ ([] : List UInt8) (by have h := rd.out; rw [← bytesV_drop, List.drop_length] at h; simpa [*] using h) (by simp)).mono ?_
            rintro e w2 ⟨v2, F2, rfl, ho2, hu2⟩
            obtain ⟨hb, h0, h1, hnd, hput, fu, hg, hsub, r0, r1⟩ := HB.out
            obtain ⟨ho, hu1⟩ := HA.out
            have HE := carried_behind p b n w F F0 F1 id c w1 w2 hok hl hg hNet hb h0 h1 hnd hput fu ho hu1 ho2 hu2 (by simp) f1
            obtain ⟨A2, k2, hv2⟩ := ho2.form
            rw [List.length_nil] at hv2
            subst hv2
            obtain ⟨g3, g4, HR⟩ := HE
            have HR := hid HR
            clear hb h0 h1 hnd hput fu hg hsub r0 r1 ho hu1 ho2 hu2
            go_wp2_with (first
              | (go_at_call 33; refine HR.out.mono ?_; rintro e w' ⟨rfl, HQ⟩))
            go_ret2
            rw [HD.out]
            obtain ⟨F'', q1, q2, q3⟩ := HQ
            exact ⟨_, Fo, F'', rfl, q1, q2, q3⟩
    · rw [hend, lookOf_1] at HL0
      have HL := hid HL0
      clear HL0
      by_cases hneg : most < 0
      · have hd : n.carry id node most = (n, [], 1) := by simp [Net.carry, hg, hend, hneg]
        have HD := hid hd
        clear hd hend hg hlk fu
        go_enter Try.func15, Try.ntmps15
        go_wp2_with (first
          | (go_at_call 31; refine HL.out.mono ?_; rintro e w' ⟨rfl, rfl⟩))
        go_ret2
        rw [HD.out]
        exact ⟨_, [], F, rfl, Own.nil _ _ _, hNet, Upd.refl _ hn⟩
      · obtain ⟨m, rfl⟩ := Int.eq_ofNat_of_zero_le (by omega : 0 ≤ most)
        obtain ⟨k, hk⟩ : ∃ k, k = min m c.p1.way.length := ⟨_, rfl⟩
        have hd : n.carry id node (m : Int) = (n.rest id { c with p1 := { c.p1 with way := c.p1.way.drop k } }, c.p1.way.take k, 0) := by
          simp only [Net.carry, hg, hend, Conn.to, Conn.set]
          simp [hk]
        have HD := hid hd
        have hkl : k ≤ c.p1.way.length := by omega
        have HK : (m ≤ c.p1.way.length ∧ k = m) ∨ (c.p1.way.length < m ∧ k = c.p1.way.length) := by omega
        clear hk
        have HB := hid (And.intro hb (And.intro h0 (And.intro h1 (And.intro hnd (And.intro hput (And.intro fu (And.intro hg (And.intro hsub (And.intro r0 r1)))))))))
        have hNB := length_bound f1 k
        clear hd hend hg hlk fu hput hb h0 h1 hnd hsub r0 r1 hneg
        rcases HK with ⟨hle, rfl⟩ | ⟨hle, rfl⟩
        · go_enter Try.func15, Try.ntmps15
          go_wp2_with (first
            | (go_at_call 31; refine HL.out.mono ?_; rintro e w' ⟨rfl, rfl⟩))
          obtain ⟨hb, h0, h1, hnd, hput, fu, hg, hsub, r0, r1⟩ := HB.out
          refine (clone_bytes (· ∈ F1) _ _ (c.p1.way.take _) (by rw [bytesV_take]; exact r1.take hkl) hNB.1).mono ?_
          rintro e w1 ⟨v1, Fo, rfl, ho, hu1⟩
          have hb1 := hb.mod hu1.mod (by simp)
          have e4' : w1.cell? ⟨b, 4, none⟩ = some (.slice A1 c.p1.way.length k1) := hb1.cell rfl
          have r1' := r1.mod hu1.mod (by simp)
          have rd := hid (r1'.drop hkl)
          have HA := hid (And.intro ho hu1)
          clear hb h0 h1 hnd hput fu hg hsub r0 r1 ho hu1 hb1 r1'
          go_wp2_with fail
          all_goals
            refine (clone_bytes (· ∈ F1) _ _ (c.p1.way.drop _) (by have h := rd.out; rw [bytesV_drop]; simpa [*] using h) hNB.2).mono ?_
            rintro e w2 ⟨v2, F2, rfl, ho2, hu2⟩
            obtain ⟨hb, h0, h1, hnd, hput, fu, hg, hsub, r0, r1⟩ := HB.out
            obtain ⟨ho, hu1⟩ := HA.out
            have HE := carried_behind1 p b n w F F0 F1 id c w1 w2 hok hl hg hNet hb h0 h1 hnd hput fu ho hu1 ho2 hu2 (by have := hNB.2; rw [List.length_drop]; omega) f0
            obtain ⟨A2, k2, hv2⟩ := ho2.form
            rw [List.length_drop] at hv2
            subst hv2
            obtain ⟨g3, g4, HR⟩ := HE
            have HR := hid HR
            clear hb h0 h1 hnd hput fu hg hsub r0 r1 ho hu1 ho2 hu2
            go_wp2_with (first
              | (go_at_call 33; refine HR.out.mono ?_; rintro e w' ⟨rfl, HQ⟩))
            go_ret2
            rw [HD.out]
            obtain ⟨F'', q1, q2, q3⟩ := HQ
            exact ⟨_, Fo, F'', rfl, q1, q2, q3⟩
        · rw [List.drop_length, List.take_length] at HD
          rw [List.take_length] at hNB
          go_enter Try.func15, Try.ntmps15
          go_wp2_with (first
            | (go_at_call 31; refine HL.out.mono ?_; rintro e w' ⟨rfl, rfl⟩))
          obtain ⟨hb, h0, h1, hnd, hput, fu, hg, hsub, r0, r1⟩ := HB.out
          refine (clone_bytes (· ∈ F1) _ _ (c.p1.way) (by have h := r1.take hkl; rw [← bytesV_take, List.take_length] at h; exact h) hNB.1).mono ?_
          rintro e w1 ⟨v1, Fo, rfl, ho, hu1⟩
          have hb1 := hb.mod hu1.mod (by simp)
          have e4' : w1.cell? ⟨b, 4, none⟩ = some (.slice A1 c.p1.way.length k1) := hb1.cell rfl
          have r1' := r1.mod hu1.mod (by simp)
          have rd := hid (r1'.drop hkl)
          have HA := hid (And.intro ho hu1)
          clear hb h0 h1 hnd hput fu hg hsub r0 r1 ho hu1 hb1 r1'
          go_wp2_with fail
          all_goals
            refine (clone_bytes (· ∈ F1) _ _ ([] : List UInt8) (by have h := rd.out; rw [← bytesV_drop, List.drop_length] at h; simpa [*] using h) (by simp)).mono ?_
            rintro e w2 ⟨v2, F2, rfl, ho2, hu2⟩
            obtain ⟨hb, h0, h1, hnd, hput, fu, hg, hsub, r0, r1⟩ := HB.out
            obtain ⟨ho, hu1⟩ := HA.out
            have HE := carried_behind1 p b n w F F0 F1 id c w1 w2 hok hl hg hNet hb h0 h1 hnd hput fu ho hu1 ho2 hu2 (by simp) f0
            obtain ⟨A2, k2, hv2⟩ := ho2.form
            rw [List.length_nil] at hv2
            subst hv2
            obtain ⟨g3, g4, HR⟩ := HE
            have HR := hid HR
            clear hb h0 h1 hnd hput fu hg hsub r0 r1 ho hu1 ho2 hu2
            go_wp2_with (first
              | (go_at_call 33; refine HR.out.mono ?_; rintro e w' ⟨rfl, HQ⟩))
            go_ret2
            rw [HD.out]
            obtain ⟨F'', q1, q2, q3⟩ := HQ
            exact ⟨_, Fo, F'', rfl, q1, q2, q3⟩
end Go.Proofs.Ytcdeknbbeghljaa
