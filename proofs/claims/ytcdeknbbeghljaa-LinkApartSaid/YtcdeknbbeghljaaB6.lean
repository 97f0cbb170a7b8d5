/- Held things, opened and closed; rows of things as one held thing ('rBig'). Nothing of the program. -/
import Derived.Test.YtcdeknbbeghljaaB4
namespace Go.Proofs.Ytcdeknbbeghljaa
open Go.RowKit

section
variable {w0 w w' : World} {l1 l2 Rs : List Res}

/-- some of them are seen as others, over blocks of theirs. -/
theorem Held.turn {α : Type} {Rs' : α → List Res} {q : α → Prop} (h : Held w0 w (l1 ++ (Rs ++ l2)))
    (ho : ∀ F, Big (fun (R : Res) => R.holds) Rs w F → F.Nodup → ∃ a G, q a ∧ Big (fun (R : Res) => R.holds) (Rs' a) w G ∧ G.Nodup ∧ ∀ b ∈ G, b ∈ F) : ∃ a, q a ∧ Held w0 w (l1 ++ (Rs' a ++ l2)) := by
  obtain ⟨⟨F, hb, hn, hl⟩, hm⟩ := h
  obtain ⟨F1, F2, h1, h2, rfl⟩ := Big.append.1 hb
  obtain ⟨F3, F4, h3, h4, rfl⟩ := Big.append.1 h2
  rw [List.nodup_append] at hn
  obtain ⟨n1, n2, d⟩ := hn
  rw [List.nodup_append] at n2
  obtain ⟨n3, n4, d'⟩ := n2
  obtain ⟨a, G, hq, hG, nG, sG⟩ := ho F3 h3 n3
  refine ⟨a, hq, ⟨F1 ++ (G ++ F4), Big.append.2 ⟨F1, G ++ F4, h1, Big.append.2 ⟨G, F4, hG, h4, rfl⟩, rfl⟩, ?_, fun b hb => hl b ?_⟩, hm⟩
  · rw [List.nodup_append]
    refine ⟨n1, ?_, fun x hx y hy e => ?_⟩
    · rw [List.nodup_append]
      exact ⟨nG, n4, fun x hx y hy e => d' x (sG x hx) y hy e⟩
    · rcases List.mem_append.1 hy with hy | hy
      · exact d x hx y (by simp [sG y hy]) e
      · exact d x hx y (by simp [hy]) e
  · rcases List.mem_append.1 hb with hb | hb
    · simp [hb]
    · rcases List.mem_append.1 hb with hb | hb
      · simp [sG b hb]
      · simp [hb]

theorem Held.turn1 {Rs' : List Res} (h : Held w0 w (l1 ++ (Rs ++ l2)))
    (ho : ∀ F, Big (fun (R : Res) => R.holds) Rs w F → F.Nodup → ∃ G, Big (fun (R : Res) => R.holds) Rs' w G ∧ G.Nodup ∧ ∀ b ∈ G, b ∈ F) : Held w0 w (l1 ++ (Rs' ++ l2)) := by
  obtain ⟨_, _, h'⟩ := Held.turn (α := Unit) (q := fun _ => True) (Rs' := fun _ => Rs') h (fun F h1 h2 => by obtain ⟨G, h3, h4, h5⟩ := ho F h1 h2; exact ⟨(), G, trivial, h3, h4, h5⟩)
  exact h'

/-- a thing that is a list of things. -/
def rAll (Rs : List Res) : Res := ⟨Big (fun (R : Res) => R.holds) Rs, fun h hk => (Big.loc Res.loc).keep h hk, fun h => (Big.loc Res.loc).lt h⟩
/-- a thing that is a list of things, for some a. -/
def rSome {α : Type} (q : α → Prop) (Rs : α → List Res) : Res :=
  ⟨fun w F => ∃ a, q a ∧ Big (fun (R : Res) => R.holds) (Rs a) w F, fun ⟨a, hq, h⟩ hk => ⟨a, hq, (Big.loc Res.loc).keep h hk⟩, fun ⟨_, _, h⟩ => (Big.loc Res.loc).lt h⟩

theorem Held.open_some {α : Type} {q : α → Prop} {Rs' : α → List Res} (h : Held w0 w (l1 ++ rSome q Rs' :: l2)) : ∃ a, q a ∧ Held w0 w (l1 ++ (Rs' a ++ l2)) :=
  Held.turn (Rs := [rSome q Rs']) h fun F hF nF => by
    obtain ⟨F1, F2, ⟨a, hq, h1⟩, h2, rfl⟩ := hF
    have h2' : F2 = [] := h2
    subst h2'
    rw [List.append_nil] at nF ⊢
    exact ⟨a, F1, hq, h1, nF, fun _ h => h⟩
theorem Held.close_some {α : Type} {q : α → Prop} {Rs' : α → List Res} (a : α) (hq : q a) (h : Held w0 w (l1 ++ (Rs' a ++ l2))) : Held w0 w (l1 ++ rSome q Rs' :: l2) :=
  Held.turn1 (Rs := Rs' a) (Rs' := [rSome q Rs']) h fun F hF nF => ⟨F, ⟨F, [], ⟨a, hq, hF⟩, rfl, by simp⟩, nF, fun _ h => h⟩

/-! ### rows of things -/
variable {α : Type} {R : α → World → List Nat → Prop} (hR : Loc R)
def rBig (l : List α) : Res := Res.of (Big.loc hR) l

theorem Held.big_split {l m : List α} (h : Held w0 w (l1 ++ rBig hR (l ++ m) :: l2)) : Held w0 w (l1 ++ rBig hR l :: rBig hR m :: l2) :=
  Held.turn1 (Rs := [rBig hR (l ++ m)]) (Rs' := [rBig hR l, rBig hR m]) h fun F hF nF => by
    obtain ⟨F1, F2, h1, h2, rfl⟩ := hF
    have h2' : F2 = [] := h2
    subst h2'
    obtain ⟨G1, G2, g1, g2, rfl⟩ := Big.append.1 (show Big R (l ++ m) w F1 from h1)
    exact ⟨G1 ++ (G2 ++ []), ⟨G1, G2 ++ [], g1, ⟨G2, [], g2, rfl, rfl⟩, rfl⟩, by simpa using nF, fun b hb => by simpa using hb⟩
theorem Held.big_join {l m : List α} (h : Held w0 w (l1 ++ rBig hR l :: rBig hR m :: l2)) : Held w0 w (l1 ++ rBig hR (l ++ m) :: l2) :=
  Held.turn1 (Rs := [rBig hR l, rBig hR m]) (Rs' := [rBig hR (l ++ m)]) h fun F hF nF => by
    obtain ⟨F1, F2, h1, ⟨F3, F4, h3, h4, rfl⟩, rfl⟩ := hF
    have h4' : F4 = [] := h4
    subst h4'
    exact ⟨(F1 ++ F3) ++ [], ⟨F1 ++ F3, [], Big.append.2 ⟨F1, F3, h1, h3, rfl⟩, rfl, rfl⟩, by simpa using nF, fun b hb => by simpa using hb⟩
theorem Held.big_uncons {x : α} {l : List α} (h : Held w0 w (l1 ++ rBig hR (x :: l) :: l2)) : Held w0 w (l1 ++ Res.of hR x :: rBig hR l :: l2) :=
  Held.turn1 (Rs := [rBig hR (x :: l)]) (Rs' := [Res.of hR x, rBig hR l]) h fun F hF nF => by
    obtain ⟨F1, F2, ⟨G1, G2, g1, g2, rfl⟩, h2, rfl⟩ := hF
    have h2' : F2 = [] := h2
    subst h2'
    exact ⟨G1 ++ (G2 ++ []), ⟨G1, G2 ++ [], g1, ⟨G2, [], g2, rfl, rfl⟩, rfl⟩, by simpa using nF, fun b hb => by simpa using hb⟩
theorem Held.big_cons {x : α} {l : List α} (h : Held w0 w (l1 ++ Res.of hR x :: rBig hR l :: l2)) : Held w0 w (l1 ++ rBig hR (x :: l) :: l2) :=
  Held.turn1 (Rs := [Res.of hR x, rBig hR l]) (Rs' := [rBig hR (x :: l)]) h fun F hF nF => by
    obtain ⟨F1, F2, h1, ⟨F3, F4, h3, h4, rfl⟩, rfl⟩ := hF
    have h4' : F4 = [] := h4
    subst h4'
    exact ⟨(F1 ++ F3) ++ [], ⟨F1 ++ F3, [], ⟨F1, F3, h1, h3, rfl⟩, rfl, rfl⟩, by simpa using nF, fun b hb => by simpa using hb⟩
theorem Held.big_nil (h : Held w0 w Rs) : Held w0 w (rBig hR [] :: Rs) :=
  Held.turn1 (l1 := []) (Rs := []) (Rs' := [rBig hR []]) (l2 := Rs) h fun F hF nF => ⟨F, ⟨[], F, rfl, hF, rfl⟩, nF, fun _ h => h⟩

theorem Big.sub {l m : List α} (hs : m.Sublist l) : ∀ {F : List Nat}, Big R l w F → F.Nodup → ∃ G, Big R m w G ∧ G.Nodup ∧ ∀ b ∈ G, b ∈ F := by
  induction hs with
  | slnil => intro F h hn; exact ⟨F, h, hn, fun _ h => h⟩
  | cons a _ ih =>
    rintro F ⟨F1, F2, h1, h2, rfl⟩ hn
    obtain ⟨G, hG, nG, sG⟩ := ih h2 (List.nodup_append.1 hn).2.1
    exact ⟨G, hG, nG, fun b hb => by simp [sG b hb]⟩
  | cons_cons a _ ih =>
    rintro F ⟨F1, F2, h1, h2, rfl⟩ hn
    obtain ⟨n1, n2, d⟩ := List.nodup_append.1 hn
    obtain ⟨G, hG, nG, sG⟩ := ih h2 n2
    refine ⟨F1 ++ G, ⟨F1, G, h1, hG, rfl⟩, List.nodup_append.2 ⟨n1, nG, fun x hx y hy e => d x hx y (sG y hy) e⟩, fun b hb => ?_⟩
    rcases List.mem_append.1 hb with h | h
    · simp [h]
    · simp [sG b h]
theorem Held.big_sub {l m : List α} (hs : m.Sublist l) (h : Held w0 w (l1 ++ rBig hR l :: l2)) : Held w0 w (l1 ++ rBig hR m :: l2) :=
  Held.turn1 (Rs := [rBig hR l]) (Rs' := [rBig hR m]) h fun F hF nF => by
    obtain ⟨F1, F2, h1, h2, rfl⟩ := hF
    have h2' : F2 = [] := h2
    subst h2'
    rw [List.append_nil] at nF
    obtain ⟨G, hG, nG, sG⟩ := Big.sub hs (show Big R l w F1 from h1) nF
    exact ⟨G ++ [], ⟨G, [], hG, rfl, rfl⟩, by simpa using nG, fun b hb => by simpa using sG b (by simpa using hb)⟩
end

theorem Held.own_rd {w0 w : World} {l1 l2 : List Res} {e : TypeId} {v : Value} {xs : List Value} (h : Held w0 w (l1 ++ rOwn e v xs :: l2)) : Rd (fun _ => True) w v xs := by
  obtain ⟨F, hF⟩ := h.get
  exact (show Own e 1 v xs.length xs w F from hF).rd.mono (fun _ _ _ => trivial)
theorem Held.own_form {w0 w : World} {l1 l2 : List Res} {e : TypeId} {v : Value} {xs : List Value} (h : Held w0 w (l1 ++ rOwn e v xs :: l2)) : ∃ A c, v = .slice A xs.length c := by
  obtain ⟨F, hF⟩ := h.get
  exact (show Own e 1 v xs.length xs w F from hF).form
/-- the nil row. -/
theorem Held.nil_own {w0 w : World} {Rs : List Res} (h : Held w0 w Rs) (e : TypeId) : Held w0 w (rOwn e (.slice none 0 0) [] :: Rs) :=
  h.more (F := []) (Own.nil _ _ _) (Upd.refl _ (by simp))
end Go.Proofs.Ytcdeknbbeghljaa
