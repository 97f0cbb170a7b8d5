/- kvstore's laws: 'short'. -/
import Derived.Test.YtdbhccehbjhbpaaGreatDoorK14

namespace Go.Proofs.YtdbhccehbjhbpaaGreatDoor
open Go.RowKit
open Kv (KOp)

def ShortPost (ds : List KDo) (w : World) (e : Ending) (w' : World) : Prop := ∃ r, e = .returned (.bool r) ∧ (r = true → ds.length ≤ 60 ∧ ∀ d ∈ ds, d.ops.length ≤ 2000) ∧ Mod (fun _ => False) w w'

set_option maxRecDepth 100000 in
set_option maxHeartbeats 4000000 in
theorem short_any {S T : Nat → Prop} (w : World) (v : Value) (ds : List KDo) (h : Dos S T w v ds) :
    Calls Tryz.prog 9 #[v] w (ShortPost ds w) := by
  obtain ⟨A, c, rfl, hc, hm⟩ := h.form
  have HD := hid (fun w1 (m : Mod (fun _ => False) w w1) => h.keep (w' := w1) fun b _ hb => m.block b hb (fun h => h))
  clear h
  obtain ⟨n, hn⟩ : ∃ n, n = ds.length := ⟨_, rfl⟩
  have HN := hid hn
  rw [← hn] at hc ⊢
  clear hn
  go_enter Tryz.func9, Tryz.ntmps9
  by_cases hbig : n ≤ 60
  · go_wp2_with fail
    go_loopw [3, 4, 14] (fun ov zv iv wr => ∃ k a z : Nat, k ≤ n ∧ iv = .int .i64 k ∧ ov = .int .i64 a ∧ a ≤ 2000 ∧ zv = .int .i64 z ∧ z ≤ 262144 ∧ (∀ j (hj : j < ds.length), j < k → ds[j].ops.length ≤ 2000) ∧ Mod (fun _ => False) w wr) (fun _ _ iv _ => n - (intOf iv).toNat)
    case atStart => exact ⟨0, 0, 0, Nat.zero_le _, rfl, rfl, Nat.zero_le _, rfl, Nat.zero_le _, fun j _ h => absurd h (by omega), Mod.refl _ _⟩
    case round =>
      obtain ⟨k, a, z, hk, rfl, rfl, ha, rfl, hz, hall, hmod⟩ := hrel
      by_cases hlt : k < ds.length
      · obtain ⟨b, off, q, hA, -, c0, c1, c2, c3, hops⟩ := (HD.out _ hmod).at hlt
        subst hA
        obtain ⟨O, oc, rfl, ho1, ho2⟩ := hops.form
        have HALL := hid (show ds[k].ops.length ≤ 2000 → ∀ j (hj : j < ds.length), j < k + 1 → ds[j].ops.length ≤ 2000 from fun h j hj hjk => by
          rcases Nat.lt_or_ge j k with h1 | h1
          · exact hall j hj h1
          · have : j = k := by omega
            subst this
            exact h)
        have HM := hid hmod
        have HO := hid (fun w1 (m : Mod (fun _ => False) wr w1) => hops.keep (w' := w1) fun b _ hb => m.block b hb (fun h => h))
        have hltn : (k : Int) < (n : Int) := by have := HN.out; omega
        generalize ds[k] = d at *
        obtain ⟨m, hml⟩ : ∃ m, m = d.ops.length := ⟨_, rfl⟩
        have HML := hid hml
        rw [← hml] at c1 ho1 HALL
        clear hmod hops hall hml hlt
        by_cases h2 : m ≤ 2000
        · have HA := hid (HALL.out h2)
          clear HALL
          go_wp2_with fail
          go_loopw [4, 30] (fun zv jv wr2 => ∃ j y : Nat, j ≤ m ∧ jv = .int .i64 j ∧ zv = .int .i64 y ∧ y ≤ 262144 + j * 524288 ∧ Mod (fun _ => False) wr wr2) (fun _ jv _ => m - (intOf jv).toNat)
          case atStart => exact ⟨0, z, Nat.zero_le _, rfl, rfl, by omega, (Mod.refl _ _).alloc _⟩
          case round =>
            obtain ⟨j, y, hj, rfl, rfl, hy, hm2⟩ := hrel
            by_cases hjl : j < m
            · obtain ⟨ob, ooff, oc', hv, o0, o1, o2⟩ := (HO.out _ hm2).1.op (k := j) (by rw [← HML.out]; exact hjl)
              injection hv with e1 e2 e3
              subst e1
              have hjn : (j : Int) < (m : Int) := by omega
              have hlen := (HO.out _ hm2).2 _ (List.getElem_mem (show j < d.ops.length by rw [← HML.out]; exact hjl))
              generalize d.ops[j]'(by rw [← HML.out]; exact hjl) = o at *
              unfold sv at o0 o2
              have HM2 := hid hm2
              clear hm2
              go_wp2_with fail
              exact ⟨⟨j + 1, y + (min o.key.length 262144 + min o.value.length 262144), by omega, by congr 1, by congr 1; omega, by omega, HM2.out.alloc _⟩, by show m - ((j : Int) + 1).toNat < m - (j : Int).toNat; omega⟩
            · have hjn : ¬ ((j : Int) < (m : Int)) := by omega
              go_wp2_with fail
              all_goals first
                | (go_ret; exact ⟨false, rfl, (fun e => by cases e), HM.out.trans' hm2⟩)
                | exact ⟨⟨k + 1, a + m, y, by omega, by congr 1, by congr 1, by omega, rfl, by omega, HA.out, HM.out.trans' hm2⟩, by show n - ((k : Int) + 1).toNat < n - (k : Int).toNat; omega⟩
        · go_wp2_with fail
          go_ret
          exact ⟨false, rfl, (fun e => by cases e), HM.out.alloc _⟩
      · have hkn : ¬ ((k : Int) < (n : Int)) := by have := HN.out; omega
        go_wp2_with fail
        go_ret
        refine ⟨true, rfl, fun _ => ⟨by rw [← HN.out]; exact hbig, fun d hd => ?_⟩, hmod⟩
        obtain ⟨j, hj, rfl⟩ := List.getElem_of_mem hd
        exact hall j hj (by omega)
  · go_wp2_with fail
    go_ret
    exact ⟨false, rfl, (fun e => by cases e), Mod.refl _ _⟩
end Go.Proofs.YtdbhccehbjhbpaaGreatDoor
