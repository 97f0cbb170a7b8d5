/- DiskPieces: the walk. -/
import Derived.Test.YtkednbkildkkmaaH5
import Derived.Test.YtkednbkildkkmaaA2
import Derived.SizedLaws
namespace Go.Proofs.Ytkednbkildkkmaa
open Go.RowKit
open Disk

theorem reach_bytes {H : Type} {enc : TypeId × Value → H} {P : Program} {W : World} {t e : TypeId} {v : Value} {d : DataW H} {p : List MemPlace} {l : Bytes} (ht : P.underlying t = some (.slice e)) (hc : P.cellsOf e = 1) (hb : P.bytesOf e = 1)
    (h : DataW.Trod enc P W 0 (fun _ => true) true t v d p) {S : Nat → Prop} (hr : Rd S W v (bytesV l)) {ts : List TypeId} {ds : List (DataW H)} (hw : (DataW.weightsEach P ts ds).all (· ≤ reachBytes) = true) {j : Nat} (hj : ts[j]? = some t) (hd : ds[j]? = some d) : l.length ≤ 140737488355328 := by
  obtain ⟨fuel, hf⟩ := h
  obtain ⟨A, c, rfl, -⟩ := hr
  rw [bytesV_length] at hf
  rcases Go.Deep.open_slice1 ht hc hf with ⟨hcs, -⟩ | ⟨a, len, cap, m, n, V, D, Pl, hcs, -, hl, -, -, hx, -⟩
  · simp [Value.cells] at hcs
    simp [hcs]
  · simp [Value.cells] at hcs
    obtain ⟨rfl, h2, rfl⟩ := hcs
    injection hx with h3 _
    subst h3
    have := sized_slice hw hj hd ht
    rw [hb] at this
    simp only [List.length_map, List.length_range, Nat.mul_one] at this
    have h4 := reachBytes_lt
    omega

set_option maxRecDepth 100000 in
set_option maxHeartbeats 4000000 in
theorem pieces_walk (w : World) (room : Int) (v : Value) (ds : List Do) (h : Dos w.heap.size w v ds) (name : Bytes) (hnm : name.length ≤ 9223372036854775807) (va : Value) (a : Bytes) (ha : Rd (· < w.heap.size) w va (bytesV a))
    (vb : Value) (b : Bytes) (hb : Rd (· < w.heap.size) w vb (bytesV b)) (hal : a.length ≤ 140737488355328) (hbl : b.length ≤ 140737488355328) :
    Calls Try.prog 10 #[.int .i64 room, v, sv name, va, vb] w fun e w' => e = .returned (.bool true) ∧ Below w.heap.size w w' := by
  obtain ⟨aA, ac, rfl, a1, a2, -⟩ := id ha
  obtain ⟨bA, bc, rfl, b1, b2, -⟩ := id hb
  rw [bytesV_length] at a1 b1 ha hb
  rw [bytesV_length, bytesV_length]
  clear a2 b2
  have HM := hid (made_held (Held.begin w) room v ds h)
  have HK := hid (And.intro ha (And.intro hb hnm))
  clear h ha hb hnm
  unfold sv
  go_enter Try.func10, Try.ntmps10
  go_wp2_with fail
  refine HM.out.mono ?_
  rintro e w1 ⟨n, p, ok, hn, rfl, hs, g⟩
  cases ok with
  | false =>
    have G := hid g
    clear g hs HM
    go_wp2_with fail
    refine (awake_any w1).mono ?_
    rintro e w2 ⟨rfl, hm⟩
    go_wp2_with fail
    go_ret
    exact ⟨rfl, (G.out.step hm).below⟩
  | true =>
    obtain ⟨hl, -⟩ := hs rfl
    have hok := diskOf_ok hn ds
    have hsm := (diskOf_small n ds).more hl
    simp only [if_true] at g
    generalize diskOf n ds = d at *
    by_cases hbig : 32768 < a.length + b.length
    · have G := hid g
      clear g hs HM hok hsm
      go_wp2_with fail
      refine (awake_any w1).mono ?_
      rintro e w2 ⟨rfl, hm⟩
      go_wp2_with fail
      go_ret
      exact ⟨rfl, (G.out.step hm).below⟩
    · have C1 := hid (clone_disk g hok (by have := hsm.rest; omega))
      have HO := hid (And.intro hok hsm)
      clear g hs HM hok hsm
      go_wp2_with fail
      refine C1.out.mono ?_
      rintro e w2 ⟨q, rfl, g⟩
      -- clone, disk
      have C2 := hid (write_held g.pull1 HO.out.1 (by have := HO.out.2.rest; omega) name HK.out.2.2 a aA ac (src_old HK.out.1) (by omega))
      have hp := pieces HO.out.1 name a b
      obtain ⟨ab, hab⟩ : ∃ ab, ab = a ++ b := ⟨_, rfl⟩
      have hal2 : ab.length ≤ 32768 := by rw [hab, List.length_append]; omega
      rw [← hab] at hp
      have hok1 := HO.out.1.write name a
      have hsm1 := HO.out.2.write name a
      have hok3 := HO.out.1.write name ab
      have hsm3 := HO.out.2.write name ab
      have hok2 := hok1.write name b
      have hsm2 := hsm1.write name b
      obtain ⟨d1, hd1⟩ : ∃ d1, d1 = (d.write name a).1 := ⟨_, rfl⟩
      obtain ⟨e1, he1⟩ : ∃ e1, e1 = (d.write name a).2 := ⟨_, rfl⟩
      rw [← hd1] at C2 hp hok1 hsm1 hok2 hsm2
      rw [← he1] at C2 hp
      obtain ⟨d2, hd2⟩ : ∃ d2, d2 = (d1.write name b).1 := ⟨_, rfl⟩
      obtain ⟨e2, he2⟩ : ∃ e2, e2 = (d1.write name b).2 := ⟨_, rfl⟩
      rw [← hd2, ← he2] at hp
      rw [← hd2] at hok2 hsm2
      obtain ⟨d3, hd3⟩ : ∃ d3, d3 = (d.write name ab).1 := ⟨_, rfl⟩
      obtain ⟨e3, he3⟩ : ∃ e3, e3 = (d.write name ab).2 := ⟨_, rfl⟩
      rw [← hd3, ← he3] at hp
      rw [← hd3] at hok3 hsm3
      have HP := hid (And.intro hp (And.intro hok1 (And.intro hsm1 (And.intro hok2 (And.intro hsm2 (And.intro hok3 hsm3))))))
      have H2 := hid (And.intro hd2 he2)
      have H3 := hid (And.intro hd3 he3)
      have HAB := hid hab
      unfold sv at C2
      clear g C1 hp hok1 hsm1 hok2 hsm2 hok3 hsm3 hd1 he1 hd2 he2 hd3 he3 hab
      go_wp2_with fail
      refine C2.out.mono ?_
      rintro e w3 ⟨rfl, g⟩
      -- disk, clone
      have C3 := hid (write_held g HP.out.2.1 (by have := HP.out.2.2.1.rest; omega) name HK.out.2.2 b bA bc (src_old HK.out.2.1) (by omega))
      rw [← H2.out.1, ← H2.out.2] at C3
      unfold sv at C3
      clear g C2
      go_wp2_with fail
      refine C3.out.mono ?_
      rintro e w4 ⟨rfl, g⟩
      have g5 := g.alloc (.cells #[.slice aA a.length ac, .slice bA b.length bc] 31)
      have hr0 := Rd.newRow w4 31 [.slice aA a.length ac, .slice bA b.length bc] (0, 0) (by simp [maxLen])
      have C4 := hid (concat_bytes (· < w.heap.size) _ _ _ [.slice aA a.length ac, .slice bA b.length bc] [a, b] hr0 ⟨g5.rd HK.out.1, g5.rd HK.out.2.1, trivial⟩ (by simp; omega) (by simp))
      have G5 := hid g5
      clear g g5 hr0 C3
      simp only [List.flatten_cons, List.flatten_nil, List.append_nil] at C4
      rw [← HAB.out] at C4
      go_wp2_with fail
      refine C4.out.mono ?_
      rintro e w5 ⟨vc, Fc, rfl, ho, hu⟩
      have g := G5.out.more (R := rBytes vc ab) (own_bytes ho) hu
      obtain ⟨cA, cc, rfl, c1, c2⟩ := Held.form (l1 := []) g
      -- both, disk, clone
      have C5 := hid (write_held g.pull2 HO.out.1 (by have := HO.out.2.rest; omega) name HK.out.2.2 ab cA cc (fun w' M hh => Held.bytes (l1 := M) hh) (by omega))
      rw [← H3.out.1, ← H3.out.2] at C5
      unfold sv at C5
      clear g ho hu C4 G5
      go_wp2_with fail
      refine C5.out.mono ?_
      rintro e w6 ⟨rfl, g⟩
      -- clone, both, disk
      have he3 : e3 = 0 ∨ e3 ≠ 0 := by omega
      rcases he3 with he3 | he3
      · obtain ⟨x1, x2⟩ := HP.out.1.1.1 he3
        obtain ⟨al, us⟩ := HP.out.1.2 he3
        have C6 := hid (same_held (g.pull2.pull1) HP.out.2.2.2.2.2.1 HP.out.2.2.2.1 al (by have := HP.out.2.2.2.2.2.2.seen; omega))
        have HU := hid us
        have hu1 : used d3.held ≤ 1000000000000 := by have := HP.out.2.2.2.2.2.1.fits; have := HP.out.2.2.2.2.2.1.room; omega
        subst he3 x1 x2
        clear g C5 al us
        go_wp2_with fail
        refine C6.out.mono ?_
        rintro e w7 ⟨rfl, g⟩
        have C7 := hid (used_held g hu1)
        clear g C6
        go_wp2_with fail
        refine C7.out.mono ?_
        rintro e w8 ⟨rfl, g⟩
        have C8 := hid (used_held g.pull1 (by rw [← HU.out]; exact hu1))
        rw [← HU.out] at C8
        clear g C7
        generalize used d3.held = us at *
        go_wp2_with fail
        refine C8.out.mono ?_
        rintro e w9 ⟨rfl, g⟩
        have G := hid g
        clear g C8
        go_wp2_with fail
        refine (awake_any w9).mono ?_
        rintro e w10 ⟨rfl, hm⟩
        go_wp2_with fail
        go_ret
        exact ⟨rfl, (G.out.step hm).below⟩
      · have hne : ¬ (e1 = 0 ∧ e2 = 0) := fun hh => he3 (HP.out.1.1.2 hh)
        have y3 : (e3 == 0) = false := by simpa using he3
        have G := hid g
        have HNE := hid hne
        clear g C5 he3 hne
        go_wp2_with fail
        all_goals first
          | exact absurd ⟨by assumption, by assumption⟩ HNE.out
          | (refine (awake_any w6).mono ?_
             rintro e w7 ⟨rfl, hm⟩
             go_wp2_with fail
             go_ret
             exact ⟨by first | rfl | (simp; assumption), (G.out.step hm).below⟩)
end Go.Proofs.Ytkednbkildkkmaa
