/- link: the contract of Conns; slices.Contains at ints. -/
import Derived.Test.YtcdeknbbeghljaaS2
import Derived.Test.YtcdeknbbeghljaaL16
namespace Go.Proofs.Ytcdeknbbeghljaa
open Go.RowKit
open Link

/-- the numbers, rising. -/
def Link.Net.ids (n : Net) : List Int := (n.conns.map (·.1)).mergeSort fun x y => decide (x ≤ y)
theorem ids_mem (n : Net) (id : Int) : id ∈ n.ids ↔ ∃ p ∈ n.conns, p.1 = id := by
  unfold Net.ids
  rw [List.mem_mergeSort]
  simp
theorem ids_length (n : Net) : n.ids.length = n.conns.length := by unfold Net.ids; rw [List.length_mergeSort]; simp

theorem NetAt.mapAt {p : Nat} {n : Net} {w : World} {F : List Nat} (h : NetAt p n w F) : ∃ bm L, w.cell? ⟨p, 0, none⟩ = some (.map (some bm)) ∧ MapAt Try.prog 3 w bm L ∧ L.map (·.1) = (n.conns.map (·.1)).map (Value.int .i64) := by
  obtain ⟨bm, G, hb, ⟨L, G', hL, hm, -, -⟩, -⟩ := h
  refine ⟨bm, _, hb.cell rfl, hm, ?_⟩
  rw [← hL]
  simp only [List.map_map]
  rfl

set_option maxRecDepth 100000 in
theorem conns_any (p : Nat) (n : Net) (w : World) (F : List Nat) (hNet : NetAt p n w F) (hok : n.Ok) :
    Calls Try.prog 21 #[.pointer (some ⟨p, 0, none⟩)] w fun e w' => ∃ v F', e = .returned v ∧ Own 3 1 v n.ids.length (intsV n.ids) w' F' ∧ Upd w w' [] F' := by
  obtain ⟨bm, L, c0, hm, hL⟩ := hNet.mapAt
  have HM := hid (made_any w p (some bm) c0)
  have hfew := hok.few
  have HK := hid (keys_int (some bm) w)
  have HS := hid (sorted_int (n.conns.map (·.1)) bm w hm hL (by simp; omega))
  have hlen : n.ids.length = (n.conns.map (·.1)).length := by rw [ids_length]; simp
  rw [hlen]
  clear hNet hok hm hL hfew hlen
  go_enter Try.func21, Try.ntmps21
  go_wp2_with (first
    | (go_at_call 30; refine HM.out.mono ?_; rintro e w' ⟨rfl, rfl⟩)
    | (go_at_call 37; refine HK.out.mono ?_; rintro e w' ⟨rfl, rfl⟩))
  refine HS.out.mono ?_
  rintro e w' ⟨v, F', rfl, ho, hu⟩
  have HP := hid (And.intro ho hu)
  clear ho hu HS
  go_wp2
  go_ret
  exact ⟨_, _, rfl, HP.out.1, HP.out.2⟩

def rInts (v : Value) (l : List Int) : Res := rOwn 3 v (intsV l)
theorem own_ints {v : Value} {l : List Int} {w : World} {F : List Nat} (h : Own 3 1 v l.length (intsV l) w F) : (rInts v l).holds w F := by
  show Own _ 1 v (intsV l).length (intsV l) w F
  rwa [show (intsV l).length = l.length by simp [intsV]]
theorem Held.ints {w0 w : World} {l1 l2 : List Res} {v : Value} {l : List Int} (h : Held w0 w (l1 ++ rInts v l :: l2)) : Rd (fun _ => True) w v (intsV l) := by
  obtain ⟨F, hF⟩ := h.get
  have hF' : Own 3 1 v (intsV l).length (intsV l) w F := hF
  exact hF'.rd.mono (fun _ _ _ => trivial)

theorem conns_held {w0 w : World} (l1 l2 : List Res) {p : Nat} {n : Net} (h : Held w0 w (l1 ++ rNet p n :: l2)) (hok : n.Ok) :
    Calls Try.prog 21 #[.pointer (some ⟨p, 0, none⟩)] w fun e w' => ∃ v, e = .returned v ∧ Held w0 w' (rInts v n.ids :: (l1 ++ rNet p n :: l2)) := by
  obtain ⟨F, hR, -, -, -⟩ := h.use
  exact (conns_any p n w F hR hok).mono fun _ _ ⟨v, F', he, h1, h2⟩ => ⟨v, he, h.more (own_ints h1) h2⟩

set_option maxRecDepth 100000 in
theorem contains_any (S : Nat → Prop) (w : World) (v : Value) (l : List Int) (x : Int) (h : Rd S w v (intsV l)) :
    Calls Try.prog 20 #[v, .int .i64 x] w fun e w' => e = .returned (.bool (l.contains x)) ∧ w = w' := by
  have HI := hid (index_any S w v l x h)
  have hc : decide (0 ≤ idx l x) = l.contains x := by
    unfold idx
    cases hf : l.findIdx? (· == x) with
    | none =>
      have := List.findIdx?_eq_none_iff.1 hf
      have hn : x ∉ l := fun h => by simpa using this x h
      simp [hn]
    | some i =>
      obtain ⟨hi, hp, -⟩ := List.findIdx?_eq_some_iff_getElem.1 hf
      have hm : x ∈ l := by rw [← (by simpa using hp : l[i] = x)]; exact List.getElem_mem _
      simp [hm]
  have HC := hid hc
  clear h hc
  go_enter Try.func20, Try.ntmps20
  go_wp2_with (first
    | (go_at_call 35; refine HI.out.mono ?_; rintro e w' ⟨rfl, rfl⟩))
  go_ret
  rw [← HC.out]
  exact ⟨rfl, rfl⟩
end Go.Proofs.Ytcdeknbbeghljaa
