/- make and copy, for a walk, over held rows of one-cell elements. Nothing of the program. -/
import Derived.Test.YtcdeknbbeghljaaB7
import Derived.Laws.CopyOwn
import Derived.OwnWalk
namespace Go.Proofs.Ytcdeknbbeghljaa
open Go.RowKit

section
variable {P : Program} {w0 w : World} {ops : Array Oper} {rest : List Oper} {o : Oper} {a : Act} {Q : Exit → Act → World → Prop} {Rs l1 l2 : List Res}

theorem wpList_make_held (hg : o.guard = none) (l c : Operand) (t : TypeId) (hop : o.op = Op.makeSlice t l c)
    (e : TypeId) (i : TypeInfo) (z : Value) (bytes : Nat) (ht : P.underlying t = some (.slice e)) (hi : P.info? e = some i) (hz : i.zero = some z) (hsize : i.size = 1) (hby : i.bytes = bytes) (hz1 : z.cells = #[z])
    (hh : Held w0 w Rs) (kl kc : IntKind) (n : Nat) (hl : a.eval l = .int kl (n : Int)) (hc : a.eval c = .int kc (n : Int)) (hbytes : bytes * n ≤ 281474976710656) (h63 : n ≤ maxLen)
    (hK : ∀ w' A, Held w0 w' (rOwn e (.slice A n n) (List.replicate n z) :: Rs) → wpList P ops Q rest (a.put o.dst (.slice A n n)) w') :
    wpList P ops Q (o :: rest) a w := by
  refine wpList_make_full w hg l c t hop 0 e i z 1 ht hi hz hsize kl kc n n n hl hc rfl rfl (by rw [hby]; exact hbytes) h63 (Nat.zero_le _) fun w' h1 h2 => ?_
  refine hK w' _ (hh.more (F := [w.heap.size]) ?_ ⟨Mod.of_grownBy h2 (fun k hk _ => by cases hk), by simp, fun b hb => .inr (by simp at hb; omega)⟩)
  refine ⟨?_, rfl⟩
  have h3 : (madeCells z.cells (n * 1)).toList = List.replicate n z := by
    rw [hz1, Nat.mul_one]
    apply List.ext_getElem
    · simp [madeCells]
    · intro k h4 h5
      simp [madeCells, Nat.mod_one]
  rw [h3] at h1
  simpa using h1

theorem wp_copy_held {K : Act → World → Prop} (d s : Operand) (dT sT : TypeId) (ho : o.op = .call { callee := .builtin .copy, args := #[d, s], argTypes := #[dT, sT] })
    (e : TypeId) (hu : P.underlying dT = some (.slice e)) (hsz : (P.info? e).map (·.size) = some 1)
    (v : Value) (xs : List Value) (hh : Held w0 w (l1 ++ rOwn e v xs :: l2))
    (dp sp : Option Addr) (dLen dCap sLen sCap : Nat) (hd : a.eval d = .slice dp dLen dCap) (hs : a.eval s = .slice sp sLen sCap) (off : Nat) (cs : List Value) (hn : cs.length = Nat.min sLen dLen)
    (hpos : 0 < cs.length → (∀ (g n c : Nat), v = .slice (some ⟨g, 0, none⟩) n c → dp = some ⟨g, off, none⟩) ∧ ∃ ad, sp = some ad ∧ ∀ j v, cs[j]? = some v → w.cell? (ad.add j) = some v)
    (hfit : off + cs.length ≤ xs.length) (h1 : ∀ v ∈ cs, v.oneCell' = true)
    (h : ∀ w', Held w0 w' (l1 ++ rOwn e v (splice xs off cs) :: l2) → K (a.put o.dst (goInt cs.length)) w') :
    o.wp P a w K Q := by
  by_cases h0 : cs.length = 0
  · obtain rfl : cs = [] := List.eq_nil_of_length_eq_zero h0
    have hrun := run_copy_none (P := P) w dT sT o.type e dp sp dLen dCap sLen sCap hu hsz (by simpa using hn.symm)
    unfold Oper.wp
    simp [execOp, ho, resolve, invoke, builtin, hd, hs, hrun, Result.andThen]
    exact h w (by simpa [splice] using hh)
  · obtain ⟨F, hF, nF, lF, hb⟩ := hh.use
    obtain ⟨hown, hFe⟩ : Own e 1 v xs.length xs w F := hF
    obtain ⟨hlen, hrow⟩ := hown
    rcases hrow with ⟨rfl, hz⟩ | ⟨g, cap, cur, rfl, -, hgb, r1, r2, r3, r4⟩
    · exfalso; omega
    · obtain ⟨hdp, ad, rfl, hsrc⟩ := hpos (by omega)
      obtain rfl := hdp g _ _ rfl
      rw [Nat.mul_one] at r3 r4
      have hrun := run_copy_row (P := P) w dT sT o.type e g off dLen dCap ad sLen sCap cur e cs hu hsz hgb hn hsrc (by omega) h1
      unfold Oper.wp
      simp [execOp, ho, resolve, invoke, builtin, hd, hs, hrun, Result.andThen]
      refine h _ (hb _ _ F ?_ ⟨?_, nF, fun b hb => .inl hb⟩)
      · have hsp : (splice xs off cs).length = xs.length := length_splice _ _ _ hfit
        show Own e 1 _ (splice xs off cs).length (splice xs off cs) _ F
        rw [hsp]
        refine ⟨⟨by rw [hsp, Nat.mul_one], .inr ⟨g, cap, _, rfl, Nat.zero_le _, setRow_heap w g _ _ _ _ hgb, r1, r2, ?_, ?_⟩⟩, hFe⟩
        · have hcl : cur.toList.length = cap := by simpa using r3
          simp only [List.size_toArray, List.length_append, List.length_take, List.length_drop, hcl]
          omega
        · rw [Nat.mul_one]
          have hcl : cur.toList.length = cap := by simpa using r3
          have hx : xs = cur.toList.take xs.length := r4.symm
          unfold splice
          rw [List.toList_toArray]
          conv => rhs; rw [hx]
          rw [List.take_append, List.take_append, List.take_take, List.take_of_length_le (l := cs) (by simp; omega), List.take_take]
          have e1 : min xs.length off = off := by omega
          have e2 : min off xs.length = off := by omega
          rw [e1, e2]
          congr 2
          rw [List.drop_take]
          congr 1
          simp
          omega
      · refine ⟨rfl, rfl, rfl, by simp [World.setRow], fun b hb hS => setRow_other w g b _ ?_⟩
        intro e
        exact hS (by rw [hFe, e]; simp [Value.ownBlock])

theorem wpList_copy_held (hgd : o.guard = none) (d s : Operand) (dT sT : TypeId) (ho : o.op = .call { callee := .builtin .copy, args := #[d, s], argTypes := #[dT, sT] })
    (e : TypeId) (hu : P.underlying dT = some (.slice e)) (hsz : (P.info? e).map (·.size) = some 1)
    (v : Value) (xs : List Value) (hh : Held w0 w (l1 ++ rOwn e v xs :: l2))
    (dp sp : Option Addr) (dLen dCap sLen sCap : Nat) (hd : a.eval d = .slice dp dLen dCap) (hs : a.eval s = .slice sp sLen sCap) (off : Nat) (cs : List Value) (hn : cs.length = Nat.min sLen dLen)
    (hpos : 0 < cs.length → (∀ (g n c : Nat), v = .slice (some ⟨g, 0, none⟩) n c → dp = some ⟨g, off, none⟩) ∧ ∃ ad, sp = some ad ∧ ∀ j v, cs[j]? = some v → w.cell? (ad.add j) = some v)
    (hfit : off + cs.length ≤ xs.length) (h1 : ∀ v ∈ cs, v.oneCell' = true)
    (h : ∀ w', Held w0 w' (l1 ++ rOwn e v (splice xs off cs) :: l2) → wpList P ops Q rest (a.put o.dst (goInt cs.length)) w') :
    wpList P ops Q (o :: rest) a w :=
  wpList_plain hgd fun _ hK => wp_copy_held d s dT sT ho e hu hsz v xs hh dp sp dLen dCap sLen sCap hd hs off cs hn hpos hfit h1 fun w' hh' => hK _ _ (h w' hh')

theorem step_copy_held {K : Act → World → Prop} {E : Prop} (hgd : o.guard = none) (d s : Operand) (dT sT : TypeId) (ho : o.op = .call { callee := .builtin .copy, args := #[d, s], argTypes := #[dT, sT] })
    (e : TypeId) (hu : P.underlying dT = some (.slice e)) (hsz : (P.info? e).map (·.size) = some 1)
    (v : Value) (xs : List Value) (hh : Held w0 w (l1 ++ rOwn e v xs :: l2))
    (dp sp : Option Addr) (dLen dCap sLen sCap : Nat) (hd : a.eval d = .slice dp dLen dCap) (hs : a.eval s = .slice sp sLen sCap) (off : Nat) (cs : List Value) (hn : cs.length = Nat.min sLen dLen)
    (hpos : 0 < cs.length → (∀ (g n c : Nat), v = .slice (some ⟨g, 0, none⟩) n c → dp = some ⟨g, off, none⟩) ∧ ∃ ad, sp = some ad ∧ ∀ j v, cs[j]? = some v → w.cell? (ad.add j) = some v)
    (hfit : off + cs.length ≤ xs.length) (h1 : ∀ v ∈ cs, v.oneCell' = true)
    (h : ∀ w', Held w0 w' (l1 ++ rOwn e v (splice xs off cs) :: l2) → K (a.put o.dst (goInt cs.length)) w') :
    if Region.wanted o (yielded ops a.tmps) = true then Oper.wp P o a w K Q else E := by
  have hw : Region.wanted o (yielded ops a.tmps) = true := by simp [Region.wanted, hgd]
  rw [if_pos hw]
  exact wp_copy_held d s dT sT ho e hu hsz v xs hh dp sp dLen dCap sLen sCap hd hs off cs hn hpos hfit h1 h
end
end Go.Proofs.Ytcdeknbbeghljaa
