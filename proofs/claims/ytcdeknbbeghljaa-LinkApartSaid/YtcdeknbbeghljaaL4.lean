/- link: the contracts of New, Dial, Send, Carry, Close. -/
import Derived.Test.YtcdeknbbeghljaaL3
namespace Go.Proofs.Ytcdeknbbeghljaa
open Go.RowKit
open Go.ChangeMaps (setBlock)
open Go.Maps (Keyed)
open Link

theorem net_made (w : World) : NetAt (w.heap.size + 1) Net.empty ((w.alloc (.map #[] 0)).alloc (.cells #[.map (some w.heap.size), .int .i64 0] 48)) [w.heap.size + 1, w.heap.size] := by
  refine ⟨w.heap.size, [w.heap.size], ?_, ?_, rfl⟩
  · have := Blk.new (w.alloc (.map #[] 0)) 48 #[.map (some w.heap.size), .int .i64 0]
    rwa [World.size_alloc] at this
  · exact (MapBig.loc connLoc).keep (MapBig.made _ _ _ _ w) (fun b hb => by
      simp only [List.mem_singleton] at hb
      subst hb
      exact Below.heap_alloc _ _ _ (by simp))

set_option maxRecDepth 100000 in
theorem new_any (w : World) : Calls Try.prog 12 #[] w fun e w' => ∃ p F, e = .returned (.pointer (some ⟨p, 0, none⟩)) ∧ NetAt p Net.empty w' F ∧ Upd w w' [] F := by
  have hmm := @run_makeMap Try.prog
  go_enter Try.func12, Try.ntmps12
  go_wp2
  go_ret
  refine ⟨_, _, rfl, net_made w, ((Mod.refl _ w).alloc _).alloc _, by simp, fun b hb => .inr ?_⟩
  simp only [List.mem_cons, List.not_mem_nil, or_false] at hb
  omega

/-- a new connection. -/
theorem conn_new (w : World) (a b : Int) : ConnR ⟨a, b, ⟨[], false⟩, ⟨[], false⟩⟩ (.pointer (some ⟨w.heap.size, 0, none⟩)) (w.alloc (.cells #[.int .i64 a, .int .i64 b, .slice none 0 0, .bool false, .slice none 0 0, .bool false] 73)) [w.heap.size] :=
  ⟨w.heap.size, _, _, [], [], rfl, Blk.new _ _ _, Own.nil _ _ _, Own.nil _ _ _, rfl⟩

theorem wf_small {a : Int} (h1 : -9223372036854775808 ≤ a) (h2 : a ≤ 9223372036854775807) : (Lit.int .i64 a).wf = true := WalkArith.wf_i64 ⟨h1, h2⟩

set_option maxRecDepth 100000 in
set_option maxHeartbeats 2000000 in
theorem dial_any (p : Nat) (n : Net) (w : World) (F : List Nat) (a b : Int) (hNet : NetAt p n w F) (hn : F.Nodup) (hok : n.Ok) (hlast : n.last ≤ 1000000000) :
    Calls Try.prog 13 #[.pointer (some ⟨p, 0, none⟩), .int .i64 a, .int .i64 b] w fun e w' =>
      e = .returned (.tuple #[.int .i64 (n.dial a b).2.1, .int .i64 (n.dial a b).2.2]) ∧ ∃ F', NetAt p (n.dial a b).1 w' F' ∧ Upd w w' F F' := by
  obtain ⟨bm, G, hb, hm, rfl⟩ := id hNet
  have c0 : w.cell? ⟨p, 0, none⟩ = some (.map (some bm)) := hb.cell rfl
  have c1 : w.cell? ⟨p, 1, none⟩ = some (.int .i64 n.last) := hb.cell rfl
  have HM := hid (made_any w p (some bm) c0)
  have hfz := hb.frozen 1
  by_cases hab : a = b
  · have hd : n.dial a b = (n, 0, 1) := by simp [Net.dial, hab]
    have HD := hid hd
    have e1 : (a == b) = true := by simp [hab]
    clear hab hd
    go_enter Try.func13, Try.ntmps13
    go_wp2_with (first
      | (go_at_call 30; refine HM.out.mono ?_; rintro e w' ⟨rfl, rfl⟩))
    go_ret2
    rw [HD.out]
    exact ⟨rfl, _, hNet, Upd.refl _ hn⟩
  · have hlen := fun ty => hm.length Try.underlying46 ty
    have hlow := hok.low
    by_cases hbad : min a b < 0 ∨ max a b ≥ 16
    · have hd : n.dial a b = (n, 0, 1) := by simp only [Net.dial]; rw [if_pos (.inr hbad)]
      have HD := hid hd
      have e1 : (a == b) = false := by simp [hab]
      have HB : (a < b ∧ (a < 0 ∨ 0 ≤ a ∧ 16 ≤ b)) ∨ (b < a ∧ (b < 0 ∨ 0 ≤ b ∧ 16 ≤ a)) := by omega
      clear hab hd hbad
      rcases HB with ⟨hlt, hx | ⟨hy, hx⟩⟩ | ⟨hlt, hx | ⟨hy, hx⟩⟩
      all_goals
        go_enter Try.func13, Try.ntmps13
        go_wp2_with (first
          | (go_at_call 30; refine HM.out.mono ?_; rintro e w' ⟨rfl, rfl⟩))
        go_ret2
        rw [HD.out]
        exact ⟨rfl, _, hNet, Upd.refl _ hn⟩
    · have e1 : (a == b) = false := by simp [hab]
      have HB : (a < b ∧ 0 ≤ a ∧ b < 16) ∨ (b < a ∧ 0 ≤ b ∧ a < 16) := by omega
      by_cases hfull : 64 ≤ n.conns.length
      · have hd : n.dial a b = (n, 0, 7) := by
          simp only [Net.dial]
          rw [if_neg (by omega), if_pos hfull]
        have HD := hid hd
        clear hab hd hbad
        rcases HB with ⟨hlt, hx, hy⟩ | ⟨hlt, hx, hy⟩
        all_goals
          go_enter Try.func13, Try.ntmps13
          go_wp2_with (first
            | (go_at_call 30; refine HM.out.mono ?_; rintro e w' ⟨rfl, rfl⟩))
          go_ret2
          rw [HD.out]
          exact ⟨rfl, _, hNet, Upd.refl _ hn⟩
      · have hd : n.dial a b = ({ conns := n.conns ++ [(n.last + 1, ⟨a, b, ⟨[], false⟩, ⟨[], false⟩⟩)], last := n.last + 1 }, n.last + 1, 0) := by
          simp only [Net.dial]
          rw [if_neg (by omega), if_neg hfull]
        have HD := hid hd
        clear hab hd hbad
        have hn' := hn
        rw [List.nodup_cons] at hn'
        have hwf : (Lit.int .i64 (n.last + 1)).wf = true := wf_small (by omega) (by omega)
        have hbm : bm ≠ p := by
          obtain ⟨_, _, _, _, _, rfl⟩ := hm
          intro e
          exact hn'.1 (by simp [e])
        have HX : ∃ o, (Instr.mapUpdate 46 (.map (some bm)) (.int .i64 (n.last + 1)) (.pointer (some ⟨w.heap.size, 0, none⟩))).run Try.prog (((w.setCell ⟨p, 1, none⟩ (.int .i64 (n.last + 1))).alloc (.cells #[.int .i64 a, .int .i64 b, .slice none 0 0, .bool false, .slice none 0 0, .bool false] 73)).drew) =
            .ok () (setBlock (((w.setCell ⟨p, 1, none⟩ (.int .i64 (n.last + 1))).alloc (.cells #[.int .i64 a, .int .i64 b, .slice none 0 0, .bool false, .slice none 0 0, .bool false] 73)).drew) bm o) ∧
            (setBlock (((w.setCell ⟨p, 1, none⟩ (.int .i64 (n.last + 1))).alloc (.cells #[.int .i64 a, .int .i64 b, .slice none 0 0, .bool false, .slice none 0 0, .bool false] 73)).drew) bm o).cell? ⟨p, 1, none⟩ = some (.int .i64 (n.last + 1)) ∧
            ∃ F', NetAt p { conns := n.conns ++ [(n.last + 1, ⟨a, b, ⟨[], false⟩, ⟨[], false⟩⟩)], last := n.last + 1 } (setBlock (((w.setCell ⟨p, 1, none⟩ (.int .i64 (n.last + 1))).alloc (.cells #[.int .i64 a, .int .i64 b, .slice none 0 0, .bool false, .slice none 0 0, .bool false] 73)).drew) bm o) F' ∧
              Upd w (setBlock (((w.setCell ⟨p, 1, none⟩ (.int .i64 (n.last + 1))).alloc (.cells #[.int .i64 a, .int .i64 b, .slice none 0 0, .bool false, .slice none 0 0, .bool false] 73)).drew) bm o) (p :: G) F' := by
          have hmod : Mod (· ∈ p :: G) w (((w.setCell ⟨p, 1, none⟩ (.int .i64 (n.last + 1))).alloc (.cells #[.int .i64 a, .int .i64 b, .slice none 0 0, .bool false, .slice none 0 0, .bool false] 73)).drew) :=
            ((((Mod.refl _ w).setCell (p := ⟨p, 1, none⟩) (fun _ => by simp) _).alloc _).drew)
          have hb1 : Blk (((w.setCell ⟨p, 1, none⟩ (.int .i64 (n.last + 1))).alloc (.cells #[.int .i64 a, .int .i64 b, .slice none 0 0, .bool false, .slice none 0 0, .bool false] 73)).drew) p 48 #[.map (some bm), .int .i64 (n.last + 1)] :=
            ((hb.set 1 (.int .i64 (n.last + 1))).alloc _).drew
          have hc := conn_new (w.setCell ⟨p, 1, none⟩ (.int .i64 (n.last + 1))) a b
          rw [World.size_setCell] at hc
          have hm1 := (MapBig.loc connLoc).keep (w' := (((w.setCell ⟨p, 1, none⟩ (.int .i64 (n.last + 1))).alloc (.cells #[.int .i64 a, .int .i64 b, .slice none 0 0, .bool false, .slice none 0 0, .bool false] 73)).drew)) hm (fun k hk =>
            (Below.heap_alloc _ _ _ (by rw [World.size_setCell]; exact (MapBig.loc connLoc).lt hm k hk)).trans (Below.heap_setCell w ⟨p, 1, none⟩ _ k (by rintro rfl; exact hn'.1 hk)))
          have hlt := (MapBig.loc connLoc).lt hm
          obtain ⟨o, hrun, F', hm2, n2, s2⟩ := MapBig.store_new connLoc intKeyed Try.underlying46 hm1 hn'.2 (k := n.last + 1) (intKey _ hwf) (fun q hq e => by
            have h1 := (hok.ids q hq).2
            have h2 : q.1 = n.last + 1 := by injection e
            omega) (connLoc.keep (x := ((n.last + 1, _), _)) hc (fun _ _ => rfl)) (by simp) (fun k hk e => by
            simp only [List.mem_singleton] at hk
            subst hk
            have := hlt _ e
            omega)
          obtain ⟨F2, hm3, hp2⟩ := hm2.perm n2 (List.perm_append_singleton _ n.conns).symm
          have hs2 : ∀ k ∈ F2, k ∈ G ∨ k = w.heap.size := fun k hk => by
            rcases s2 k (hp2.mem_iff.2 hk) with h | h
            · exact .inl h
            · exact .inr (by simpa using h)
          refine ⟨o, hrun, Blk.cell (hb1.of_eq (setBlock_other _ _ hbm)) rfl, p :: F2, ⟨bm, F2, hb1.of_eq (setBlock_other _ _ hbm), hm3, rfl⟩, hmod.setBlock (fun _ => ?_) _, ?_, ?_⟩
          · obtain ⟨_, _, _, _, _, rfl⟩ := hm
            simp
          · rw [List.nodup_cons]
            refine ⟨fun h => ?_, (hp2.nodup_iff).1 n2⟩
            rcases hs2 p h with h | h
            · exact hn'.1 h
            · have := hb.lt; omega
          · intro k hk
            rcases List.mem_cons.1 hk with rfl | hk
            · exact .inl (by simp)
            · rcases hs2 k hk with h | h
              · exact .inl (by simp [h])
              · exact .inr (by omega)
        obtain ⟨o, hrun, hcl2, HF⟩ := HX
        have HF' := hid HF
        have hcl : (w.setCell ⟨p, 1, none⟩ (.int .i64 (n.last + 1))).cell? ⟨p, 0, none⟩ = some (.map (some bm)) := (hb.set 1 (.int .i64 (n.last + 1))).cell rfl
        have hcl1 : (w.setCell ⟨p, 1, none⟩ (.int .i64 (n.last + 1))).cell? ⟨p, 1, none⟩ = some (.int .i64 (n.last + 1)) := (hb.set 1 (.int .i64 (n.last + 1))).cell rfl
        have hcl3 : ∀ o, ((w.setCell ⟨p, 1, none⟩ (.int .i64 (n.last + 1))).alloc o).cell? ⟨p, 0, none⟩ = some (.map (some bm)) := fun o => ((hb.set 1 (.int .i64 (n.last + 1))).alloc o).cell rfl
        have hcl4 : ∀ o, ((w.setCell ⟨p, 1, none⟩ (.int .i64 (n.last + 1))).alloc o).cell? ⟨p, 1, none⟩ = some (.int .i64 (n.last + 1)) := fun o => ((hb.set 1 (.int .i64 (n.last + 1))).alloc o).cell rfl
        clear HF hn' hbm hwf
        rcases HB with ⟨hlt, hx, hy⟩ | ⟨hlt, hx, hy⟩
        all_goals
          go_enter Try.func13, Try.ntmps13
          go_wp2_with (first
            | (go_at_call 30; refine HM.out.mono ?_; rintro e w' ⟨rfl, rfl⟩))
          go_region
          all_goals
            go_wp2
            go_ret2
            rw [HD.out]
            exact ⟨rfl, HF'.out⟩
end Go.Proofs.Ytcdeknbbeghljaa
