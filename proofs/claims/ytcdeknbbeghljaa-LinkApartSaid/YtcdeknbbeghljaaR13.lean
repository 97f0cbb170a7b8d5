/- link: the laws' 'does' over both nets. -/
import Derived.Test.YtcdeknbbeghljaaR12
import Derived.Test.YtcdeknbbeghljaaR9
import Derived.Deep.RegionHeld3
namespace Go.Proofs.Ytcdeknbbeghljaa
open Go.RowKit
open Link

theorem u8_mod (k : Int) : wrap64 ((IntKind.u64.wrap k).tmod 8) = k % 8 := by
  have h0 : IntKind.u64.wrap k = k % 18446744073709551616 := by unfold IntKind.wrap IntKind.bits IntKind.signed; simp
  rw [h0, Int.tmod_eq_emod_of_nonneg (by omega)]
  unfold wrap64
  omega
theorem call_of {n : Net} {k : Do} {o : Int} (h : k.op % 8 = o) : n.call k = if o = 0 then (n.dial k.a k.b).1
  else if o = 3 ∨ o = 4 then (n.carry k.id k.a k.b).1
  else if o = 5 then (n.close k.id k.a).1
  else if o = 6 then (n.cut k.id).1
  else if o = 7 then (n.drop k.a).1
  else (n.send k.id k.a k.bytes).1 := by subst h; rfl
theorem o8_cases (k : Int) : k % 8 = 0 ∨ k % 8 = 1 ∨ k % 8 = 2 ∨ k % 8 = 3 ∨ k % 8 = 4 ∨ k % 8 = 5 ∨ k % 8 = 6 ∨ k % 8 = 7 := by omega
section
variable {w0 w : World} {B : List Res}
theorem lclone_held (h : Held w0 w B) {v : Value} {l : Bytes} {S : Nat → Prop} (hr : Rd S w v (bytesV l)) (hl : l.length ≤ 70368744177664) :
    Calls Try.prog 32 #[v] w fun e w' => ∃ v', e = .returned v' ∧ Held w0 w' (rBytes v' l :: B) :=
  (clone_bytes S w v l hr hl).mono fun _ _ ⟨v', F, he, ho, hu⟩ => ⟨v', he, h.more (own_bytes ho) hu⟩
/-- one cell of an owned row is written. -/
theorem Held.own_store {e : TypeId} {g c n : Nat} {xs : List Value} (hn : xs.length = n) (h : Held w0 w (rOwn e (.slice (some ⟨g, 0, none⟩) n c) xs :: B)) {j : Nat} (hj : j < n) (u : Value) :
    Held w0 (w.setCell ⟨g, j, none⟩ u) (rOwn e (.slice (some ⟨g, 0, none⟩) n c) (xs.set j u) :: B) ∧ w.frozen? ⟨g, j, none⟩ = false := by
  subst hn
  obtain ⟨F, ⟨hown, hF⟩, nF, -, hback⟩ := Held.use (l1 := []) h
  obtain ⟨h1, h2⟩ := hown
  rcases h2 with ⟨hv, hz⟩ | ⟨g', cap, cur, hv, hb, hg, r1, r2, r3, r4⟩
  · omega
  · injection hv with e1 e2 e3
    injection e1 with e1
    injection e1 with e1
    subst e1 e3
    have hfz : w.frozen? ⟨g, j, none⟩ = false := by simp [World.frozen?, hg]
    refine ⟨hback _ (rOwn e (.slice (some ⟨g, 0, none⟩) xs.length c) (xs.set j u)) F ⟨⟨by simp, .inr ⟨g, c, cur.setIfInBounds j u, by rw [List.length_set], hb, ?_, by rw [List.length_set]; exact r1, r2, by simpa using r3, ?_⟩⟩, hF⟩ ⟨(Mod.refl _ w).setCell (fun _ => by rw [hF]; simp [Value.ownBlock]) _, nF, fun b hb => .inl hb⟩, hfz⟩
    · simp [World.setCell, Array.getElem?_modify, hg]
    · rw [List.length_set, Array.toList_setIfInBounds, List.take_set, r4]
/-- behind a call: the clone and the struct are let go. -/
theorem does_end {M N p q : Nat} {n m : Net} {x y : Res} (hMN : M ≤ N) (h : Held w0 w (rRef M q n :: x :: y :: rNet p m :: B)) : Held w0 w (rNet p m :: rRef N q n :: B) :=
  (Held.drop0 (Held.pull2 (Held.drop0 (Held.pull2 (Held.pull3 (h.rmore hMN))))))
end
theorem carry_len {n : Net} (hok : n.Ok) (id node most : Int) : (n.carry id node most).2.1.length ≤ 1000000 := by
  unfold Net.carry
  cases hg : n.get id with
  | none => simp
  | some c =>
    obtain ⟨l0, l1, -⟩ := get_of hok hg
    simp only
    split
    · simp
    · split
      · simp
      · simp only [List.length_take]
        unfold Conn.to
        split <;> omega
theorem does_turn {w0 w : World} {B : List Res} {a x y z : Res} (h : Held w0 w (a :: x :: y :: z :: B)) : Held w0 w (a :: y :: z :: x :: B) := h.perm (List.Perm.cons a (List.perm_middle (l₁ := [y, z])).symm)
theorem rcut_held2 {w0 w : World} {B : List Res} {M p : Nat} {n : Net} (h : Held w0 w (rRef M p n :: B)) (hfew : n.conns.length ≤ 1000) (id : Int) :
    Calls Try.prog 44 #[.pointer (some ⟨p, 0, none⟩), .int .i64 id] w fun e w' => e = .returned (.int .i64 (n.cut id).2) ∧ Held w0 w' (rRef M p (n.cut id).1 :: B) := rcut_held h hfew id
def U8s (xs : List Value) : Prop := ∀ v ∈ xs, ∃ z, v = .int .u8 z
theorem u8s_bytes (l : Bytes) : U8s (bytesV l) := fun v hv => by obtain ⟨x, -, rfl⟩ := List.mem_map.1 hv; exact ⟨_, rfl⟩
theorem u8s_set {xs : List Value} (h : U8s xs) (j : Nat) (z : Int) : U8s (xs.set j (.int .u8 z)) := fun v hv => by
  rcases List.mem_or_eq_of_mem_set hv with h1 | h1
  · exact h v h1
  · exact ⟨z, h1⟩
theorem u8s_append {xs : List Value} (h : U8s xs) (z : Int) : U8s (xs ++ [.int .u8 z]) := fun v hv => by
  rcases List.mem_append.1 hv with h1 | h1
  · exact h v h1
  · exact ⟨z, List.mem_singleton.1 h1⟩

set_option maxRecDepth 100000 in
set_option maxHeartbeats 4000000 in
theorem ldoes_held {w0 w : World} {B : List Res} {M p q : Nat} {n : Net} (h : Held w0 w (rNet p n :: rRef M q n :: B)) (hf : n.Fine) (hl : n.last ≤ 1000000000) (hM : M ≤ 1000000000) (k : Do) (hw : k.Wf) (bA : Option Addr) (bc : Nat) (hb : Rd (· < w0.heap.size) w0 (.slice bA k.bytes.length bc) (bytesV k.bytes)) (hbl : k.bytes.length ≤ 100000000) :
    Calls Try.prog 26 #[.pointer (some ⟨p, 0, none⟩), .pointer (some ⟨q, 0, none⟩), .agg #[.int .i64 k.op, .int .i64 k.id, .int .i64 k.a, .int .i64 k.b, .slice bA k.bytes.length bc]] w fun e w' => e = .returned (.bool true) ∧ Held w0 w' (rNet p (n.call k) :: rRef (M + k.bytes.length) q (n.call k) :: B) := by
  have g0 := h.block 33 #[.int .i64 k.op, .int .i64 k.id, .int .i64 k.a, .int .i64 k.b, .slice bA k.bytes.length bc]
  have c4 : (w.alloc (.cells #[.int .i64 k.op, .int .i64 k.id, .int .i64 k.a, .int .i64 k.b, .slice bA k.bytes.length bc] 33)).cell? ⟨w.heap.size, 4, none⟩ = some (.slice bA k.bytes.length bc) := (Held.blk0 g0).cell rfl
  have CL := hid (lclone_held g0 (g0.rd hb) (by omega))
  have hu := u8_mod k.op
  have HB := hid hb
  have HF := hid (And.intro hf hw)
  have HC0 := hid (fun o => @call_of n k o)
  clear h g0 hb hf hw
  rcases o8_cases k.op with hq | hq | hq | hq | hq | hq | hq | hq
  · rw [hq] at hu
    have HCALL := hid (show n.call k = (n.dial k.a k.b).1 by rw [HC0.out _ hq]; simp)
    clear hq HC0
    go_enter Try.func26, Try.ntmps26
    go_wp2_with fail
    refine CL.out.mono ?_
    rintro e w1 ⟨v1, rfl, g1⟩
    obtain ⟨vA, vc, rfl, vl1, vl2⟩ := Held.form (l1 := []) g1
    have k0 : w1.cell? ⟨w.heap.size, 0, none⟩ = some (.int .i64 k.op) := (Held.blk0 (Held.pull1 g1)).cell rfl
    have k1 : w1.cell? ⟨w.heap.size, 1, none⟩ = some (.int .i64 k.id) := (Held.blk0 (Held.pull1 g1)).cell rfl
    have k2 : w1.cell? ⟨w.heap.size, 2, none⟩ = some (.int .i64 k.a) := (Held.blk0 (Held.pull1 g1)).cell rfl
    have k3 : w1.cell? ⟨w.heap.size, 3, none⟩ = some (.int .i64 k.b) := (Held.blk0 (Held.pull1 g1)).cell rfl
    have G1 := hid g1
    clear g1 CL c4
    have C1 := hid (dial_held [_, _] _ G1.out HF.out.1.ok hl k.a k.b)
    go_wp2_with fail
    refine C1.out.mono ?_
    rintro e w2 ⟨rfl, g2⟩
    have e2 : w2.cell? ⟨w.heap.size, 2, none⟩ = some (.int .i64 k.a) := (Held.blk0 (Held.pull1 g2)).cell rfl
    have e3 : w2.cell? ⟨w.heap.size, 3, none⟩ = some (.int .i64 k.b) := (Held.blk0 (Held.pull1 g2)).cell rfl
    have C2 := hid (rdial_held (Held.pull3 g2) HF.out.1.ok hl k.a k.b)
    clear g2 C1 k0 k1 k2 k3
    go_wp2_with fail
    refine C2.out.mono ?_
    rintro e w3 ⟨rfl, g3⟩
    have G3 := hid g3
    clear g3 C2
    go_wp2_with fail
    go_ret
    rw [HCALL.out]
    exact ⟨rfl, does_end (Nat.le_add_right _ _) G3.out⟩
  · rw [hq] at hu
    have HCALL := hid (show n.call k = (n.send k.id k.a k.bytes).1 by rw [HC0.out _ hq]; simp)
    clear hq HC0
    go_enter Try.func26, Try.ntmps26
    go_wp2_with fail
    refine CL.out.mono ?_
    rintro e w1 ⟨v1, rfl, g1⟩
    obtain ⟨vA, vc, rfl, vl1, vl2⟩ := Held.form (l1 := []) g1
    have k0 : w1.cell? ⟨w.heap.size, 0, none⟩ = some (.int .i64 k.op) := (Held.blk0 (Held.pull1 g1)).cell rfl
    have k1 : w1.cell? ⟨w.heap.size, 1, none⟩ = some (.int .i64 k.id) := (Held.blk0 (Held.pull1 g1)).cell rfl
    have k2 : w1.cell? ⟨w.heap.size, 2, none⟩ = some (.int .i64 k.a) := (Held.blk0 (Held.pull1 g1)).cell rfl
    have k3 : w1.cell? ⟨w.heap.size, 3, none⟩ = some (.int .i64 k.b) := (Held.blk0 (Held.pull1 g1)).cell rfl
    have G1 := hid g1
    clear g1 CL c4
    have C1 := hid (send_held [_, _] _ (fun _ => True) G1.out HF.out.1.ok (by omega) k.id k.a HF.out.2.id _ k.bytes (Held.bytes (l1 := []) G1.out))
    go_wp2_with fail
    refine C1.out.mono ?_
    rintro e w2 ⟨rfl, g2⟩
    have e4 : w2.cell? ⟨w.heap.size, 4, none⟩ = some (.slice bA k.bytes.length bc) := (Held.blk0 (Held.pull1 g2)).cell rfl
    have C2 := hid (equal_held g2 (fun _ => True) (· < w0.heap.size) _ _ k.bytes k.bytes (Held.bytes (l1 := []) g2) (g2.rd HB.out))
    rw [show (k.bytes == k.bytes) = true from by simp] at C2
    clear g2 C1 k0 k1 k2 k3
    go_wp2_with fail
    refine C2.out.mono ?_
    rintro e w3 ⟨rfl, nn, -, g3⟩
    have G3 := hid g3
    clear g3 C2 e4
    go_wp2_with fail
    go_loopw [14, 73] (fun _ iv wr => ∃ (kk : Nat) (xs : List Value), kk ≤ k.bytes.length ∧ iv = .int .i64 kk ∧ xs.length = k.bytes.length ∧ U8s xs ∧ Held w0 wr (rOwn 5 (.slice vA (k.bytes.length) vc) xs :: rBlk w.heap.size 33 #[.int .i64 k.op, .int .i64 k.id, .int .i64 k.a, .int .i64 k.b, .slice bA k.bytes.length bc] :: rNet p (n.send k.id k.a k.bytes).1 :: rRef M q n :: B)) (fun _ iv _ => (k.bytes.length) - (intOf iv).toNat)
    case atStart => exact ⟨0, _, Nat.zero_le _, rfl, bytesV_length _, u8s_bytes _, G3.out⟩
    case round =>
      obtain ⟨kk, xs, hkk, rfl, hxl, hu8, hh⟩ := hrel
      by_cases hlt : kk < k.bytes.length
      · have hne : vA ≠ none := by
          rcases own_addr hh with ⟨-, -, hz⟩ | ⟨g, rfl⟩
          · omega
          · simp
        rcases own_addr hh with ⟨hno, -, -⟩ | ⟨g, hg⟩
        · exact absurd hno hne
        clear hne
        obtain ⟨z, hz⟩ := hu8 xs[kk] (List.getElem_mem (by omega))
        obtain ⟨g', c', hv, -, -, hc⟩ := Held.own_at hh (k := kk) (u := .int .u8 z) (by rw [← hz, List.getElem?_eq_getElem])
        have HS := hid (fun u : Int => Held.own_store (n := k.bytes.length) (xs := xs) hxl (by rw [hg] at hh; exact hh) hlt (.int .u8 u))
        have hfz := (HS.out 0).2
        rw [hg] at hv
        injection hv with e1 e2 e3
        injection e1 with e1
        injection e1 with e1
        subst e1
        clear e2 e3 hz
        have HU := hid hu8
        have HXL := hid hxl
        have hgs := hg
        clear hu8 hh hxl
        go_wp2_with fail
        exact ⟨⟨kk + 1, _, by omega, by simp, by rw [List.length_set]; exact HXL.out, u8s_set HU.out kk _, by rw [hgs]; exact (HS.out _).1⟩, by show k.bytes.length - ((kk : Int) + 1).toNat < k.bytes.length - (kk : Int).toNat; omega⟩
      · have hke : kk = k.bytes.length := by omega
        subst hke
        clear hu8
        have f1 : wr.cell? ⟨w.heap.size, 1, none⟩ = some (.int .i64 k.id) := (Held.blk0 (Held.pull1 hh)).cell rfl
        have f2 : wr.cell? ⟨w.heap.size, 2, none⟩ = some (.int .i64 k.a) := (Held.blk0 (Held.pull1 hh)).cell rfl
        have f4 : wr.cell? ⟨w.heap.size, 4, none⟩ = some (.slice bA k.bytes.length bc) := (Held.blk0 (Held.pull1 hh)).cell rfl
        have C3 := hid (rsend_held (Held.pull3 hh) HF.out.1.ok (by omega) k.id k.a bA bc k.bytes HB.out (by omega))
        clear hh
        go_wp2_with fail
        refine C3.out.mono ?_
        rintro e w5 ⟨rfl, g5⟩
        have G5 := hid g5
        clear g5 C3
        go_wp2_with fail
        go_ret
        rw [HCALL.out]
        exact ⟨rfl, does_end (Nat.le_refl _) G5.out⟩
  · rw [hq] at hu
    have HCALL := hid (show n.call k = (n.send k.id k.a k.bytes).1 by rw [HC0.out _ hq]; simp)
    clear hq HC0
    go_enter Try.func26, Try.ntmps26
    go_wp2_with fail
    refine CL.out.mono ?_
    rintro e w1 ⟨v1, rfl, g1⟩
    obtain ⟨vA, vc, rfl, vl1, vl2⟩ := Held.form (l1 := []) g1
    have k0 : w1.cell? ⟨w.heap.size, 0, none⟩ = some (.int .i64 k.op) := (Held.blk0 (Held.pull1 g1)).cell rfl
    have k1 : w1.cell? ⟨w.heap.size, 1, none⟩ = some (.int .i64 k.id) := (Held.blk0 (Held.pull1 g1)).cell rfl
    have k2 : w1.cell? ⟨w.heap.size, 2, none⟩ = some (.int .i64 k.a) := (Held.blk0 (Held.pull1 g1)).cell rfl
    have k3 : w1.cell? ⟨w.heap.size, 3, none⟩ = some (.int .i64 k.b) := (Held.blk0 (Held.pull1 g1)).cell rfl
    have G1 := hid g1
    clear g1 CL c4
    have C1 := hid (send_held [_, _] _ (fun _ => True) G1.out HF.out.1.ok (by omega) k.id k.a HF.out.2.id _ k.bytes (Held.bytes (l1 := []) G1.out))
    go_wp2_with fail
    refine C1.out.mono ?_
    rintro e w2 ⟨rfl, g2⟩
    have e4 : w2.cell? ⟨w.heap.size, 4, none⟩ = some (.slice bA k.bytes.length bc) := (Held.blk0 (Held.pull1 g2)).cell rfl
    have C2 := hid (equal_held g2 (fun _ => True) (· < w0.heap.size) _ _ k.bytes k.bytes (Held.bytes (l1 := []) g2) (g2.rd HB.out))
    rw [show (k.bytes == k.bytes) = true from by simp] at C2
    clear g2 C1 k0 k1 k2 k3
    go_wp2_with fail
    refine C2.out.mono ?_
    rintro e w3 ⟨rfl, nn, -, g3⟩
    have G3 := hid g3
    clear g3 C2 e4
    go_wp2_with fail
    go_loopw [14, 73] (fun _ iv wr => ∃ (kk : Nat) (xs : List Value), kk ≤ k.bytes.length ∧ iv = .int .i64 kk ∧ xs.length = k.bytes.length ∧ U8s xs ∧ Held w0 wr (rOwn 5 (.slice vA (k.bytes.length) vc) xs :: rBlk w.heap.size 33 #[.int .i64 k.op, .int .i64 k.id, .int .i64 k.a, .int .i64 k.b, .slice bA k.bytes.length bc] :: rNet p (n.send k.id k.a k.bytes).1 :: rRef M q n :: B)) (fun _ iv _ => (k.bytes.length) - (intOf iv).toNat)
    case atStart => exact ⟨0, _, Nat.zero_le _, rfl, bytesV_length _, u8s_bytes _, G3.out⟩
    case round =>
      obtain ⟨kk, xs, hkk, rfl, hxl, hu8, hh⟩ := hrel
      by_cases hlt : kk < k.bytes.length
      · have hne : vA ≠ none := by
          rcases own_addr hh with ⟨-, -, hz⟩ | ⟨g, rfl⟩
          · omega
          · simp
        rcases own_addr hh with ⟨hno, -, -⟩ | ⟨g, hg⟩
        · exact absurd hno hne
        clear hne
        obtain ⟨z, hz⟩ := hu8 xs[kk] (List.getElem_mem (by omega))
        obtain ⟨g', c', hv, -, -, hc⟩ := Held.own_at hh (k := kk) (u := .int .u8 z) (by rw [← hz, List.getElem?_eq_getElem])
        have HS := hid (fun u : Int => Held.own_store (n := k.bytes.length) (xs := xs) hxl (by rw [hg] at hh; exact hh) hlt (.int .u8 u))
        have hfz := (HS.out 0).2
        rw [hg] at hv
        injection hv with e1 e2 e3
        injection e1 with e1
        injection e1 with e1
        subst e1
        clear e2 e3 hz
        have HU := hid hu8
        have HXL := hid hxl
        have hgs := hg
        clear hu8 hh hxl
        go_wp2_with fail
        exact ⟨⟨kk + 1, _, by omega, by simp, by rw [List.length_set]; exact HXL.out, u8s_set HU.out kk _, by rw [hgs]; exact (HS.out _).1⟩, by show k.bytes.length - ((kk : Int) + 1).toNat < k.bytes.length - (kk : Int).toNat; omega⟩
      · have hke : kk = k.bytes.length := by omega
        subst hke
        clear hu8
        have f1 : wr.cell? ⟨w.heap.size, 1, none⟩ = some (.int .i64 k.id) := (Held.blk0 (Held.pull1 hh)).cell rfl
        have f2 : wr.cell? ⟨w.heap.size, 2, none⟩ = some (.int .i64 k.a) := (Held.blk0 (Held.pull1 hh)).cell rfl
        have f4 : wr.cell? ⟨w.heap.size, 4, none⟩ = some (.slice bA k.bytes.length bc) := (Held.blk0 (Held.pull1 hh)).cell rfl
        have C3 := hid (rsend_held (Held.pull3 hh) HF.out.1.ok (by omega) k.id k.a bA bc k.bytes HB.out (by omega))
        clear hh
        go_wp2_with fail
        refine C3.out.mono ?_
        rintro e w5 ⟨rfl, g5⟩
        have G5 := hid g5
        clear g5 C3
        go_wp2_with fail
        go_ret
        rw [HCALL.out]
        exact ⟨rfl, does_end (Nat.le_refl _) G5.out⟩
  · rw [hq] at hu
    have HCALL := hid (show n.call k = (n.carry k.id k.a k.b).1 by rw [HC0.out _ hq]; simp)
    clear hq HC0
    go_enter Try.func26, Try.ntmps26
    go_wp2_with fail
    refine CL.out.mono ?_
    rintro e w1 ⟨v1, rfl, g1⟩
    obtain ⟨vA, vc, rfl, vl1, vl2⟩ := Held.form (l1 := []) g1
    have k0 : w1.cell? ⟨w.heap.size, 0, none⟩ = some (.int .i64 k.op) := (Held.blk0 (Held.pull1 g1)).cell rfl
    have k1 : w1.cell? ⟨w.heap.size, 1, none⟩ = some (.int .i64 k.id) := (Held.blk0 (Held.pull1 g1)).cell rfl
    have k2 : w1.cell? ⟨w.heap.size, 2, none⟩ = some (.int .i64 k.a) := (Held.blk0 (Held.pull1 g1)).cell rfl
    have k3 : w1.cell? ⟨w.heap.size, 3, none⟩ = some (.int .i64 k.b) := (Held.blk0 (Held.pull1 g1)).cell rfl
    have G1 := hid g1
    clear g1 CL c4
    have C1 := hid (carry_held [_, _] _ G1.out HF.out.1.ok (by omega) k.id k.a k.b HF.out.2.id)
    go_wp2_with fail
    refine C1.out.mono ?_
    rintro e w2 ⟨vo, rfl, g2⟩
    obtain ⟨oA, oc, rfl, ol1, ol2⟩ := Held.form (l1 := [_, _]) g2
    have e1 : w2.cell? ⟨w.heap.size, 1, none⟩ = some (.int .i64 k.id) := (Held.blk0 (Held.pull1 g2)).cell rfl
    have e2 : w2.cell? ⟨w.heap.size, 2, none⟩ = some (.int .i64 k.a) := (Held.blk0 (Held.pull1 g2)).cell rfl
    have e3 : w2.cell? ⟨w.heap.size, 3, none⟩ = some (.int .i64 k.b) := (Held.blk0 (Held.pull1 g2)).cell rfl
    have C2 := hid (rcarry_held (Held.pull4 g2) HF.out.1.ok HF.out.1.live (by omega) k.id k.a k.b)
    clear g2 C1 k0 k1 k2 k3
    go_wp2_with fail
    refine C2.out.mono ?_
    rintro e w3 ⟨vq, rfl, g3⟩
    obtain ⟨qA, qc, rfl, ql1, ql2⟩ := Held.form (l1 := []) g3
    have hcl : (n.carry k.id k.a k.b).2.1.length ≤ 1000000 := carry_len HF.out.1.ok k.id k.a k.b
    have C4 := hid (equal_held g3 (fun _ => True) (fun _ => True) _ _ (n.carry k.id k.a k.b).2.1 (n.carry k.id k.a k.b).2.1 (Held.bytes (l1 := [_, _, _, _]) g3) (Held.bytes (l1 := []) g3))
    rw [show ((n.carry k.id k.a k.b).2.1 == (n.carry k.id k.a k.b).2.1) = true from by simp] at C4
    generalize n.carry k.id k.a k.b = dd at *
    clear g3 C2
    go_wp2_with fail
    refine C4.out.mono ?_
    rintro e w4 ⟨rfl, nn, -, g4⟩
    obtain ⟨iA, iz, is, ib, iy⟩ := info_parts u8_zero
    have HI := hid (And.intro iz (And.intro is (And.intro ib iy)))
    have HRD := hid (Rd.newRow w4 5 [.int .u8 7] (0, 0) (by simp [maxLen]))
    have HG := hid (show Held w0 (w4.alloc (.cells #[.int .u8 7] 5)) ([rBytes (.slice qA dd.2.1.length qc) dd.2.1, rRef M q dd.1, rBytes (.slice vA k.bytes.length vc) k.bytes, rBlk w.heap.size 33 #[.int .i64 k.op, .int .i64 k.id, .int .i64 k.a, .int .i64 k.b, .slice bA k.bytes.length bc]] ++ rOwn 5 (.slice oA dd.2.1.length oc) (bytesV dd.2.1) :: rNet p dd.1 :: B) from g4.alloc _)
    clear g4 C4 iz is ib iy
    go_wp2_with (at_builtin; refine wpList_append_held (w0 := w0) [rBytes (.slice qA dd.2.1.length qc) dd.2.1, rRef M q dd.1, rBytes (.slice vA k.bytes.length vc) k.bytes, rBlk w.heap.size 33 #[.int .i64 k.op, .int .i64 k.id, .int .i64 k.a, .int .i64 k.b, .slice bA k.bytes.length bc]] _ rfl _ _ 30 rfl 5 iA (.int .u8 0) 1 Try.underlying30 HI.out.1 HI.out.2.1 HI.out.2.2.1 HI.out.2.2.2 rfl (.slice oA dd.2.1.length oc) (bytesV dd.2.1) rfl HG.out _ (.slice (some ⟨w4.heap.size, 0, none⟩) 1 1) [.int .u8 7] rfl HRD.out (by intro x hx; rw [List.mem_singleton.1 hx]; rfl) (by rw [bytesV_length]; simp; omega) (by rw [bytesV_length]; unfold maxLen; simp; omega) ?c1)
    case c1 =>
    intro A' c' w5 p1 p2 g5
    simp only [bytesV_length, List.length_cons, List.length_nil, Nat.zero_add] at g5 p1 ⊢
    have G5 := hid (Held.pull4 g5)
    clear g5 HG HRD HI
    go_wp2_with fail
    go_loopw [20, 129] (fun _ iv wr => ∃ (kk : Nat) (xs : List Value), kk ≤ dd.2.1.length + 1 ∧ iv = .int .i64 kk ∧ xs.length = dd.2.1.length + 1 ∧ U8s xs ∧ Held w0 wr (rOwn 5 (.slice A' (dd.2.1.length + 1) c') xs :: rBytes (.slice qA dd.2.1.length qc) dd.2.1 :: rRef M q dd.1 :: rBytes (.slice vA k.bytes.length vc) k.bytes :: rBlk w.heap.size 33 #[.int .i64 k.op, .int .i64 k.id, .int .i64 k.a, .int .i64 k.b, .slice bA k.bytes.length bc] :: rNet p dd.1 :: B)) (fun _ iv _ => (dd.2.1.length + 1) - (intOf iv).toNat)
    case atStart => exact ⟨0, _, Nat.zero_le _, rfl, by simp [bytesV_length], u8s_append (u8s_bytes _) 7, G5.out⟩
    case round =>
      obtain ⟨kk, xs, hkk, rfl, hxl, hu8, hh⟩ := hrel
      by_cases hlt : kk < dd.2.1.length + 1
      · have hne : A' ≠ none := by
          rcases own_addr hh with ⟨-, -, hz⟩ | ⟨g, rfl⟩
          · omega
          · simp
        rcases own_addr hh with ⟨hno, -, -⟩ | ⟨g, hg⟩
        · exact absurd hno hne
        clear hne
        obtain ⟨z, hz⟩ := hu8 xs[kk] (List.getElem_mem (by omega))
        obtain ⟨g', c', hv, -, -, hc⟩ := Held.own_at hh (k := kk) (u := .int .u8 z) (by rw [← hz, List.getElem?_eq_getElem])
        have HS := hid (fun u : Int => Held.own_store (n := dd.2.1.length + 1) (xs := xs) hxl (by rw [hg] at hh; exact hh) hlt (.int .u8 u))
        have hfz := (HS.out 0).2
        rw [hg] at hv
        injection hv with e1 e2 e3
        injection e1 with e1
        injection e1 with e1
        subst e1
        clear e2 e3 hz
        have HU := hid hu8
        have HXL := hid hxl
        have hgs := hg
        clear hu8 hh hxl
        go_wp2_with fail
        exact ⟨⟨kk + 1, _, by omega, by simp, by rw [List.length_set]; exact HXL.out, u8s_set HU.out kk _, by rw [hgs]; exact (HS.out _).1⟩, by show dd.2.1.length + 1 - ((kk : Int) + 1).toNat < dd.2.1.length + 1 - (kk : Int).toNat; omega⟩
      · have hke : kk = dd.2.1.length + 1 := by omega
        subst hke
        clear hu8
        have HH := hid hh
        clear hh
        go_wp2_with fail
        go_ret
        rw [HCALL.out]
        exact ⟨rfl, does_end (Nat.le_add_right _ _) (Held.drop0 (Held.drop0 HH.out))⟩
  · rw [hq] at hu
    have HCALL := hid (show n.call k = (n.carry k.id k.a k.b).1 by rw [HC0.out _ hq]; simp)
    clear hq HC0
    go_enter Try.func26, Try.ntmps26
    go_wp2_with fail
    refine CL.out.mono ?_
    rintro e w1 ⟨v1, rfl, g1⟩
    obtain ⟨vA, vc, rfl, vl1, vl2⟩ := Held.form (l1 := []) g1
    have k0 : w1.cell? ⟨w.heap.size, 0, none⟩ = some (.int .i64 k.op) := (Held.blk0 (Held.pull1 g1)).cell rfl
    have k1 : w1.cell? ⟨w.heap.size, 1, none⟩ = some (.int .i64 k.id) := (Held.blk0 (Held.pull1 g1)).cell rfl
    have k2 : w1.cell? ⟨w.heap.size, 2, none⟩ = some (.int .i64 k.a) := (Held.blk0 (Held.pull1 g1)).cell rfl
    have k3 : w1.cell? ⟨w.heap.size, 3, none⟩ = some (.int .i64 k.b) := (Held.blk0 (Held.pull1 g1)).cell rfl
    have G1 := hid g1
    clear g1 CL c4
    have C1 := hid (carry_held [_, _] _ G1.out HF.out.1.ok (by omega) k.id k.a k.b HF.out.2.id)
    go_wp2_with fail
    refine C1.out.mono ?_
    rintro e w2 ⟨vo, rfl, g2⟩
    obtain ⟨oA, oc, rfl, ol1, ol2⟩ := Held.form (l1 := [_, _]) g2
    have e1 : w2.cell? ⟨w.heap.size, 1, none⟩ = some (.int .i64 k.id) := (Held.blk0 (Held.pull1 g2)).cell rfl
    have e2 : w2.cell? ⟨w.heap.size, 2, none⟩ = some (.int .i64 k.a) := (Held.blk0 (Held.pull1 g2)).cell rfl
    have e3 : w2.cell? ⟨w.heap.size, 3, none⟩ = some (.int .i64 k.b) := (Held.blk0 (Held.pull1 g2)).cell rfl
    have C2 := hid (rcarry_held (Held.pull4 g2) HF.out.1.ok HF.out.1.live (by omega) k.id k.a k.b)
    clear g2 C1 k0 k1 k2 k3
    go_wp2_with fail
    refine C2.out.mono ?_
    rintro e w3 ⟨vq, rfl, g3⟩
    obtain ⟨qA, qc, rfl, ql1, ql2⟩ := Held.form (l1 := []) g3
    have hcl : (n.carry k.id k.a k.b).2.1.length ≤ 1000000 := carry_len HF.out.1.ok k.id k.a k.b
    have C4 := hid (equal_held g3 (fun _ => True) (fun _ => True) _ _ (n.carry k.id k.a k.b).2.1 (n.carry k.id k.a k.b).2.1 (Held.bytes (l1 := [_, _, _, _]) g3) (Held.bytes (l1 := []) g3))
    rw [show ((n.carry k.id k.a k.b).2.1 == (n.carry k.id k.a k.b).2.1) = true from by simp] at C4
    generalize n.carry k.id k.a k.b = dd at *
    clear g3 C2
    go_wp2_with fail
    refine C4.out.mono ?_
    rintro e w4 ⟨rfl, nn, -, g4⟩
    obtain ⟨iA, iz, is, ib, iy⟩ := info_parts u8_zero
    have HI := hid (And.intro iz (And.intro is (And.intro ib iy)))
    have HRD := hid (Rd.newRow w4 5 [.int .u8 7] (0, 0) (by simp [maxLen]))
    have HG := hid (show Held w0 (w4.alloc (.cells #[.int .u8 7] 5)) ([rBytes (.slice qA dd.2.1.length qc) dd.2.1, rRef M q dd.1, rBytes (.slice vA k.bytes.length vc) k.bytes, rBlk w.heap.size 33 #[.int .i64 k.op, .int .i64 k.id, .int .i64 k.a, .int .i64 k.b, .slice bA k.bytes.length bc]] ++ rOwn 5 (.slice oA dd.2.1.length oc) (bytesV dd.2.1) :: rNet p dd.1 :: B) from g4.alloc _)
    clear g4 C4 iz is ib iy
    go_wp2_with (at_builtin; refine wpList_append_held (w0 := w0) [rBytes (.slice qA dd.2.1.length qc) dd.2.1, rRef M q dd.1, rBytes (.slice vA k.bytes.length vc) k.bytes, rBlk w.heap.size 33 #[.int .i64 k.op, .int .i64 k.id, .int .i64 k.a, .int .i64 k.b, .slice bA k.bytes.length bc]] _ rfl _ _ 30 rfl 5 iA (.int .u8 0) 1 Try.underlying30 HI.out.1 HI.out.2.1 HI.out.2.2.1 HI.out.2.2.2 rfl (.slice oA dd.2.1.length oc) (bytesV dd.2.1) rfl HG.out _ (.slice (some ⟨w4.heap.size, 0, none⟩) 1 1) [.int .u8 7] rfl HRD.out (by intro x hx; rw [List.mem_singleton.1 hx]; rfl) (by rw [bytesV_length]; simp; omega) (by rw [bytesV_length]; unfold maxLen; simp; omega) ?c1)
    case c1 =>
    intro A' c' w5 p1 p2 g5
    simp only [bytesV_length, List.length_cons, List.length_nil, Nat.zero_add] at g5 p1 ⊢
    have G5 := hid (Held.pull4 g5)
    clear g5 HG HRD HI
    go_wp2_with fail
    go_loopw [20, 129] (fun _ iv wr => ∃ (kk : Nat) (xs : List Value), kk ≤ dd.2.1.length + 1 ∧ iv = .int .i64 kk ∧ xs.length = dd.2.1.length + 1 ∧ U8s xs ∧ Held w0 wr (rOwn 5 (.slice A' (dd.2.1.length + 1) c') xs :: rBytes (.slice qA dd.2.1.length qc) dd.2.1 :: rRef M q dd.1 :: rBytes (.slice vA k.bytes.length vc) k.bytes :: rBlk w.heap.size 33 #[.int .i64 k.op, .int .i64 k.id, .int .i64 k.a, .int .i64 k.b, .slice bA k.bytes.length bc] :: rNet p dd.1 :: B)) (fun _ iv _ => (dd.2.1.length + 1) - (intOf iv).toNat)
    case atStart => exact ⟨0, _, Nat.zero_le _, rfl, by simp [bytesV_length], u8s_append (u8s_bytes _) 7, G5.out⟩
    case round =>
      obtain ⟨kk, xs, hkk, rfl, hxl, hu8, hh⟩ := hrel
      by_cases hlt : kk < dd.2.1.length + 1
      · have hne : A' ≠ none := by
          rcases own_addr hh with ⟨-, -, hz⟩ | ⟨g, rfl⟩
          · omega
          · simp
        rcases own_addr hh with ⟨hno, -, -⟩ | ⟨g, hg⟩
        · exact absurd hno hne
        clear hne
        obtain ⟨z, hz⟩ := hu8 xs[kk] (List.getElem_mem (by omega))
        obtain ⟨g', c', hv, -, -, hc⟩ := Held.own_at hh (k := kk) (u := .int .u8 z) (by rw [← hz, List.getElem?_eq_getElem])
        have HS := hid (fun u : Int => Held.own_store (n := dd.2.1.length + 1) (xs := xs) hxl (by rw [hg] at hh; exact hh) hlt (.int .u8 u))
        have hfz := (HS.out 0).2
        rw [hg] at hv
        injection hv with e1 e2 e3
        injection e1 with e1
        injection e1 with e1
        subst e1
        clear e2 e3 hz
        have HU := hid hu8
        have HXL := hid hxl
        have hgs := hg
        clear hu8 hh hxl
        go_wp2_with fail
        exact ⟨⟨kk + 1, _, by omega, by simp, by rw [List.length_set]; exact HXL.out, u8s_set HU.out kk _, by rw [hgs]; exact (HS.out _).1⟩, by show dd.2.1.length + 1 - ((kk : Int) + 1).toNat < dd.2.1.length + 1 - (kk : Int).toNat; omega⟩
      · have hke : kk = dd.2.1.length + 1 := by omega
        subst hke
        clear hu8
        have HH := hid hh
        clear hh
        go_wp2_with fail
        go_ret
        rw [HCALL.out]
        exact ⟨rfl, does_end (Nat.le_add_right _ _) (Held.drop0 (Held.drop0 HH.out))⟩
  · rw [hq] at hu
    have HCALL := hid (show n.call k = (n.close k.id k.a).1 by rw [HC0.out _ hq]; simp)
    clear hq HC0
    go_enter Try.func26, Try.ntmps26
    go_wp2_with fail
    refine CL.out.mono ?_
    rintro e w1 ⟨v1, rfl, g1⟩
    obtain ⟨vA, vc, rfl, vl1, vl2⟩ := Held.form (l1 := []) g1
    have k0 : w1.cell? ⟨w.heap.size, 0, none⟩ = some (.int .i64 k.op) := (Held.blk0 (Held.pull1 g1)).cell rfl
    have k1 : w1.cell? ⟨w.heap.size, 1, none⟩ = some (.int .i64 k.id) := (Held.blk0 (Held.pull1 g1)).cell rfl
    have k2 : w1.cell? ⟨w.heap.size, 2, none⟩ = some (.int .i64 k.a) := (Held.blk0 (Held.pull1 g1)).cell rfl
    have k3 : w1.cell? ⟨w.heap.size, 3, none⟩ = some (.int .i64 k.b) := (Held.blk0 (Held.pull1 g1)).cell rfl
    have G1 := hid g1
    clear g1 CL c4
    go_wp2_with fail
    go_region_held3 (fun w' => w'.cell? ⟨w.heap.size, 1, none⟩ = some (.int .i64 k.id) ∧ w'.cell? ⟨w.heap.size, 2, none⟩ = some (.int .i64 k.a))
      (first | exact ⟨k1, k2⟩ | exact ⟨d1, d2⟩ | exact ⟨e1, e2⟩)
      (first
        | (go_at_call 16; refine (close_held [_, _] _ (G1.out.drew) HF.out.1.ok (by omega) k.id k.a HF.out.2.id).mono ?_; rintro e w2 ⟨rfl, g2⟩; have d1 : w2.cell? ⟨w.heap.size, 1, none⟩ = some (.int .i64 k.id) := (Held.blk0 (Held.pull1 g2)).cell rfl; have d2 : w2.cell? ⟨w.heap.size, 2, none⟩ = some (.int .i64 k.a) := (Held.blk0 (Held.pull1 g2)).cell rfl; have G2 := hid g2; clear g2)
        | (go_at_call 43; refine (rclose_held (Held.pull3 G2.out) HF.out.1.ok HF.out.1.live (by omega) k.id k.a).mono ?_; rintro e w3 ⟨rfl, g3⟩; have e1 : w3.cell? ⟨w.heap.size, 1, none⟩ = some (.int .i64 k.id) := (Held.blk0 (Held.pull2 g3)).cell rfl; have e2 : w3.cell? ⟨w.heap.size, 2, none⟩ = some (.int .i64 k.a) := (Held.blk0 (Held.pull2 g3)).cell rfl; have G3 := hid g3; clear g3))
    all_goals
      go_wp2_with fail
      go_ret
      rw [HCALL.out]
      exact ⟨rfl, does_end (Nat.le_add_right _ _) (G3.out)⟩
  · rw [hq] at hu
    have HCALL := hid (show n.call k = (n.cut k.id).1 by rw [HC0.out _ hq]; simp)
    clear hq HC0
    go_enter Try.func26, Try.ntmps26
    go_wp2_with fail
    refine CL.out.mono ?_
    rintro e w1 ⟨v1, rfl, g1⟩
    obtain ⟨vA, vc, rfl, vl1, vl2⟩ := Held.form (l1 := []) g1
    have k0 : w1.cell? ⟨w.heap.size, 0, none⟩ = some (.int .i64 k.op) := (Held.blk0 (Held.pull1 g1)).cell rfl
    have k1 : w1.cell? ⟨w.heap.size, 1, none⟩ = some (.int .i64 k.id) := (Held.blk0 (Held.pull1 g1)).cell rfl
    have k2 : w1.cell? ⟨w.heap.size, 2, none⟩ = some (.int .i64 k.a) := (Held.blk0 (Held.pull1 g1)).cell rfl
    have k3 : w1.cell? ⟨w.heap.size, 3, none⟩ = some (.int .i64 k.b) := (Held.blk0 (Held.pull1 g1)).cell rfl
    have G1 := hid g1
    clear g1 CL c4
    go_wp2_with fail
    go_region_held3 (fun w' => w'.cell? ⟨w.heap.size, 1, none⟩ = some (.int .i64 k.id))
      (first | exact k1 | exact d1 | exact e1)
      (first
        | (go_at_call 19; refine (cut_held [_, _] _ (G1.out.drew) HF.out.1.ok (by omega) k.id HF.out.2.id).mono ?_; rintro e w2 ⟨rfl, g2⟩; have d1 : w2.cell? ⟨w.heap.size, 1, none⟩ = some (.int .i64 k.id) := (Held.blk0 (Held.pull1 g2)).cell rfl; have G2 := hid g2; clear g2)
        | (go_at_call 44; refine (rcut_held2 (Held.pull3 G2.out) (by have := HF.out.1.ok.few; omega) k.id).mono ?_; rintro e w3 ⟨rfl, g3⟩; have e1 : w3.cell? ⟨w.heap.size, 1, none⟩ = some (.int .i64 k.id) := (Held.blk0 (Held.pull2 g3)).cell rfl; have G3 := hid g3; clear g3))
    all_goals
      go_wp2_with fail
      go_ret
      rw [HCALL.out]
      exact ⟨rfl, does_end (Nat.le_add_right _ _) (G3.out)⟩
  · rw [hq] at hu
    have HCALL := hid (show n.call k = (n.drop k.a).1 by rw [HC0.out _ hq]; simp)
    clear hq HC0
    go_enter Try.func26, Try.ntmps26
    go_wp2_with fail
    refine CL.out.mono ?_
    rintro e w1 ⟨v1, rfl, g1⟩
    obtain ⟨vA, vc, rfl, vl1, vl2⟩ := Held.form (l1 := []) g1
    have k0 : w1.cell? ⟨w.heap.size, 0, none⟩ = some (.int .i64 k.op) := (Held.blk0 (Held.pull1 g1)).cell rfl
    have k1 : w1.cell? ⟨w.heap.size, 1, none⟩ = some (.int .i64 k.id) := (Held.blk0 (Held.pull1 g1)).cell rfl
    have k2 : w1.cell? ⟨w.heap.size, 2, none⟩ = some (.int .i64 k.a) := (Held.blk0 (Held.pull1 g1)).cell rfl
    have k3 : w1.cell? ⟨w.heap.size, 3, none⟩ = some (.int .i64 k.b) := (Held.blk0 (Held.pull1 g1)).cell rfl
    have G1 := hid g1
    clear g1 CL c4
    go_wp2_with fail
    go_region_held3 (fun w' => w'.cell? ⟨w.heap.size, 2, none⟩ = some (.int .i64 k.a))
      (first | exact k2 | exact d1 | exact e1)
      (first
        | (go_at_call 24; refine (drop_held (Held.pull2 (G1.out.drew)) HF.out.1.ok (by omega) k.a).mono ?_; rintro e w2 ⟨rfl, g2⟩; have d1 : w2.cell? ⟨w.heap.size, 2, none⟩ = some (.int .i64 k.a) := (Held.blk0 (Held.pull2 g2)).cell rfl; have G2 := hid g2; clear g2)
        | (go_at_call 27; refine (rdrop_held (Held.pull3 G2.out) (by have := HF.out.1.ok.few; omega) k.a).mono ?_; rintro e w3 ⟨rfl, g3⟩; have e1 : w3.cell? ⟨w.heap.size, 2, none⟩ = some (.int .i64 k.a) := (Held.blk0 (Held.pull3 g3)).cell rfl; have G3 := hid g3; clear g3))
    all_goals
      go_wp2_with fail
      go_ret
      rw [HCALL.out]
      exact ⟨rfl, does_end (Nat.le_add_right _ _) (does_turn G3.out)⟩
end Go.Proofs.Ytcdeknbbeghljaa
