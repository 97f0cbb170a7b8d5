/- link: the contracts over what a law holds; awake. -/
import Derived.Test.YtcdeknbbeghljaaL6
import Derived.Test.YtcdeknbbeghljaaL7
import Derived.Test.YtcdeknbbeghljaaB4
import Derived.Lib.SlBytesConst
namespace Go.Proofs.Ytcdeknbbeghljaa
open Go.RowKit
open Link

def rNet (p : Nat) (n : Net) : Res := Res.of (NetAt.loc p) n
def rBytes (v : Value) (l : List UInt8) : Res := rOwn 5 v (bytesV l)

theorem own_bytes {v : Value} {l : List UInt8} {w : World} {F : List Nat} (h : Own 5 1 v l.length (bytesV l) w F) : (rBytes v l).holds w F := by
  show Own 5 1 v (bytesV l).length (bytesV l) w F
  rw [bytesV_length]; exact h
theorem bytes_own {v : Value} {l : List UInt8} {w : World} {F : List Nat} (h : (rBytes v l).holds w F) : Own 5 1 v l.length (bytesV l) w F := by
  have h' : Own 5 1 v (bytesV l).length (bytesV l) w F := h
  rwa [bytesV_length] at h'
theorem Held.bytes {w0 w : World} {l1 l2 : List Res} {v : Value} {l : List UInt8} (h : Held w0 w (l1 ++ rBytes v l :: l2)) : Rd (fun _ => True) w v (bytesV l) := by
  obtain ⟨F, hF⟩ := h.get
  exact (bytes_own hF).rd.mono fun _ _ _ => trivial

theorem Held.form {w0 w : World} {l1 l2 : List Res} {v : Value} {l : List UInt8} (h : Held w0 w (l1 ++ rBytes v l :: l2)) : ∃ A c, v = .slice A l.length c ∧ l.length ≤ c ∧ c ≤ 9223372036854775807 := by
  obtain ⟨A, c, hv, hc, hm, _⟩ := h.bytes
  rw [bytesV_length] at hv hc
  exact ⟨A, c, hv, hc, hm⟩

theorem new_held {w0 w : World} {Rs : List Res} (h : Held w0 w Rs) : Calls Try.prog 12 #[] w fun e w' => ∃ p, e = .returned (.pointer (some ⟨p, 0, none⟩)) ∧ Held w0 w' (rNet p Net.empty :: Rs) :=
  (new_any w).mono fun _ _ ⟨p, _, he, hn, hu⟩ => ⟨p, he, h.more hn hu⟩

theorem dial_held {w0 w : World} (l1 l2 : List Res) {p : Nat} {n : Net} (h : Held w0 w (l1 ++ rNet p n :: l2)) (hok : n.Ok) (hlast : n.last ≤ 1000000000) (a b : Int) :
    Calls Try.prog 13 #[.pointer (some ⟨p, 0, none⟩), .int .i64 a, .int .i64 b] w fun e w' =>
      e = .returned (.tuple #[.int .i64 (n.dial a b).2.1, .int .i64 (n.dial a b).2.2]) ∧ Held w0 w' (l1 ++ rNet p (n.dial a b).1 :: l2) := by
  obtain ⟨F, hR, nF, _, hb⟩ := h.use
  exact (dial_any p n w F a b hR nF hok hlast).mono fun _ _ ⟨he, F', h1, h2⟩ => ⟨he, hb _ _ F' h1 h2⟩

theorem send_held {w0 w : World} (l1 l2 : List Res) (S : Nat → Prop) {p : Nat} {n : Net} (h : Held w0 w (l1 ++ rNet p n :: l2)) (hok : n.Ok) (hl : n.last ≤ 1000000001) (id node : Int) (hwf : (Lit.int .i64 id).wf = true) (v : Value) (bs : List UInt8) (hv : Rd S w v (bytesV bs)) :
    Calls Try.prog 14 #[.pointer (some ⟨p, 0, none⟩), .int .i64 id, .int .i64 node, v] w fun e w' =>
      e = .returned (.int .i64 (n.send id node bs).2) ∧ Held w0 w' (l1 ++ rNet p (n.send id node bs).1 :: l2) := by
  obtain ⟨F, hR, nF, _, hb⟩ := h.use
  exact (send_any S p n w F id node v bs hR nF hok hl hwf hv).mono fun _ _ ⟨he, F', h1, h2⟩ => ⟨he, hb _ _ F' h1 h2⟩

theorem close_held {w0 w : World} (l1 l2 : List Res) {p : Nat} {n : Net} (h : Held w0 w (l1 ++ rNet p n :: l2)) (hok : n.Ok) (hl : n.last ≤ 1000000001) (id node : Int) (hwf : (Lit.int .i64 id).wf = true) :
    Calls Try.prog 16 #[.pointer (some ⟨p, 0, none⟩), .int .i64 id, .int .i64 node] w fun e w' =>
      e = .returned (.int .i64 (n.close id node).2) ∧ Held w0 w' (l1 ++ rNet p (n.close id node).1 :: l2) := by
  obtain ⟨F, hR, nF, _, hb⟩ := h.use
  exact (close_any p n w F id node hR nF hok hl hwf).mono fun _ _ ⟨he, F', h1, h2⟩ => ⟨he, hb _ _ F' h1 h2⟩

theorem carry_held {w0 w : World} (l1 l2 : List Res) {p : Nat} {n : Net} (h : Held w0 w (l1 ++ rNet p n :: l2)) (hok : n.Ok) (hl : n.last ≤ 1000000001) (id node most : Int) (hwf : (Lit.int .i64 id).wf = true) :
    Calls Try.prog 15 #[.pointer (some ⟨p, 0, none⟩), .int .i64 id, .int .i64 node, .int .i64 most] w fun e w' => ∃ vo,
      e = .returned (.tuple #[vo, .int .i64 (n.carry id node most).2.2]) ∧ Held w0 w' (l1 ++ rBytes vo (n.carry id node most).2.1 :: rNet p (n.carry id node most).1 :: l2) := by
  obtain ⟨F, hR, nF, _, hb⟩ := h.use2
  exact (carry_any p n w F id node most hR nF hok hl hwf).mono fun _ _ ⟨vo, Fo, F', he, h1, h2, h3⟩ => ⟨vo, he, hb _ _ _ F' Fo h2 (own_bytes h1) h3⟩

theorem concat_held {w0 w : World} {Rs : List Res} (h : Held w0 w Rs) (S T : Nat → Prop) (v : Value) (vs : List Value) (ls : List (List UInt8)) (hr : Rd T w v vs) (ha : RdAll S w vs ls) (hl : ls.flatten.length ≤ 70368744177664) (hn : ls.length ≤ 1000) :
    Calls Try.prog 18 #[v] w fun e w' => ∃ v', e = .returned v' ∧ Held w0 w' (rBytes v' ls.flatten :: Rs) :=
  (concat_bytes S T w v vs ls hr ha hl hn).mono fun _ _ ⟨v', _, he, h1, h2⟩ => ⟨v', he, h.more (own_bytes h1) h2⟩

theorem equal_held {w0 w : World} {Rs : List Res} (h : Held w0 w Rs) (S T : Nat → Prop) (v u : Value) (l m : List UInt8) (hv : Rd S w v (bytesV l)) (hu : Rd T w u (bytesV m)) :
    Calls Try.prog 17 #[v, u] w fun e w' => e = .returned (.bool (l == m)) ∧ ∃ n, w' = w.drewN n ∧ Held w0 w' Rs :=
  (equal_bytes S T w v u l m hv hu).mono fun _ _ ⟨he, n, hw⟩ => ⟨he, n, hw, hw ▸ h.drewN n⟩

/-! ### nets of one connection -/
def oneNet (x y : Int) (l m : List UInt8) : Net := ⟨[(1, ⟨x, y, ⟨l, false⟩, ⟨m, false⟩⟩)], 1⟩
theorem empty_ok : Net.empty.Ok := ⟨by simp [Net.empty], by simp [Net.empty], by simp [Net.empty], by simp [Net.empty], by simp [Net.empty], by simp [Net.empty]⟩
theorem one_ok {x y : Int} {l m : List UInt8} (hl : l.length ≤ 131072) (hm : m.length ≤ 131072) (hxy : x ≠ y) : (oneNet x y l m).Ok :=
  ⟨by simp [oneNet], by simp [oneNet], by simp [oneNet], by simp [oneNet]; exact ⟨hl, hm⟩, by simp [oneNet], by simp [oneNet]; exact hxy⟩
theorem dial_one {x y : Int} (h0 : 0 ≤ x) (h1 : 0 ≤ y) (h2 : x < 16) (h3 : y < 16) (hxy : x ≠ y) : Net.empty.dial x y = (oneNet x y [] [], 1, 0) := by
  unfold Net.dial
  rw [if_neg (by omega), if_neg (by simp [Net.empty])]
  rfl
theorem send_one {x y : Int} {l m b : List UInt8} (hxy : x ≠ y) (h : m.length + b.length ≤ 131072) : (oneNet x y l m).send 1 x b = (oneNet x y l (m ++ b), 0) := by
  have hg : (oneNet x y l m).get 1 = some ⟨x, y, ⟨l, false⟩, ⟨m, false⟩⟩ := rfl
  have he : Conn.end_ ⟨x, y, ⟨l, false⟩, ⟨m, false⟩⟩ x = 0 := by simp [Conn.end_]
  simp only [Net.send, hg, he, Conn.to, Conn.set]
  simp only [Int.reduceSub, Int.reduceNeg, reduceCtorEq, if_false]
  simp
  rw [if_neg (by omega)]
  rfl
theorem put_one {x y x' y' : Int} {l m l' m' : List UInt8} : (oneNet x y l m).put 1 ⟨x', y', ⟨l', false⟩, ⟨m', false⟩⟩ = oneNet x' y' l' m' := rfl
theorem carry_one {x y : Int} {l m : List UInt8} {k : Int} (hxy : x ≠ y) (h0 : 0 ≤ k) : (oneNet x y l m).carry 1 y k = (oneNet x y l (m.drop (min k.toNat m.length)), m.take (min k.toNat m.length), 0) := by
  have hg : (oneNet x y l m).get 1 = some ⟨x, y, ⟨l, false⟩, ⟨m, false⟩⟩ := rfl
  have he : Conn.end_ ⟨x, y, ⟨l, false⟩, ⟨m, false⟩⟩ y = 1 := by simp [Conn.end_, hxy]
  simp only [Net.carry, hg, he, Conn.to, Conn.set]
  rw [if_neg (by decide), if_neg (by omega)]
  simp only [Net.rest, rested]
  simp
  rfl

theorem wf1 : (Lit.int .i64 1).wf = true := by decide

set_option maxRecDepth 100000 in
set_option maxHeartbeats 4000000 in
/-- awake: the law's example that must go through. -/
theorem awake_any (w : World) : Calls Try.prog 11 #[] w fun e w' => e = .returned (.bool true) ∧ Mod (fun _ => False) w w' := by
  have h0 := Held.begin w
  have H0 := hid h0
  clear h0
  go_enter Try.func11, Try.ntmps11
  go_wp2_with fail
  refine (new_held H0.out).mono ?_
  rintro e w1 ⟨p, rfl, h1⟩
  have H1 := hid (dial_held [] [] h1 empty_ok (by decide) 0 1)
  rw [dial_one (by decide) (by decide) (by decide) (by decide) (by decide)] at H1
  clear h1
  have kc := fun (w : World) (C : Array Value) (n c : Nat) => Lib.run_convert_bytes_const (P := Try.prog) w 30 5 C n c Try.underlying30 Try.underlying5
  go_wp2_with fail
  refine H1.out.mono ?_
  rintro e w2 ⟨rfl, h2⟩
  have r2 := Rd.newRow w2 5 (bytesV [97, 98]) (2, 3) (by decide)
  have H2 := hid (send_held [] [] _ (h2.alloc (.cells (bytesV [97, 98]).toArray 5 (2, 3))) (one_ok (by simp) (by simp) (by decide)) (by decide) 1 0 wf1 _ [97, 98] r2)
  rw [send_one (by decide) (by decide)] at H2
  simp only [bytesV, List.map_cons, List.map_nil, List.length_cons, List.length_nil] at H2
  clear h2 r2
  go_wp2_with fail
  refine H2.out.mono ?_
  rintro e w3 ⟨rfl, h3⟩
  have H3 := hid (carry_held [] [] h3 (one_ok (by simp) (by simp) (by decide)) (by decide) 1 1 1 wf1)
  rw [carry_one (by decide) (by decide)] at H3
  clear h3
  go_wp2_with fail
  refine H3.out.mono ?_
  rintro e w4 ⟨vo, rfl, h4⟩
  have hb := (Held.bytes (l1 := []) h4)
  have hs := run_bytes_string (P := Try.prog) (dst := 9) Try.underlying30 Try.underlying5 Try.underlying9 hb
  have H4 := hid h4.mod
  clear h4 hb
  go_wp2
  go_ret
  exact ⟨rfl, H4.out⟩
end Go.Proofs.Ytcdeknbbeghljaa
