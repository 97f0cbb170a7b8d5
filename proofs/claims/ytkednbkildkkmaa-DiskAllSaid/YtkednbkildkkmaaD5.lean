/- disk: files.does at a write. -/
import Derived.Test.YtkednbkildkkmaaD4
import Derived.Test.YtkednbkildkkmaaB9
import Derived.Deep.RegionHeld3
namespace Go.Proofs.Ytkednbkildkkmaa
open Go.RowKit
open Disk

theorem own_addr {w0 w : World} {l2 : List Res} {e : TypeId} {A : Option Addr} {n c : Nat} {xs : List Value} (h : Held w0 w (rOwn e (.slice A n c) xs :: l2)) : n ≤ c ∧ (A = none ∧ c = 0 ∧ n = 0 ∨ ∃ g, A = some ⟨g, 0, none⟩) := by
  obtain ⟨F, hF⟩ := Held.get (l1 := []) h
  obtain ⟨⟨-, hr⟩, -⟩ : Own e 1 (.slice A n c) xs.length xs w F := hF
  rcases hr with ⟨e, hz⟩ | ⟨g, cap, cur, e, -, -, r1, -, -, -⟩
  · injection e with e1 e2 e3
    exact ⟨by omega, .inl ⟨e1, e3, e2⟩⟩
  · injection e with e1 e2 e3
    subst e2 e3
    exact ⟨r1, .inr ⟨g, e1⟩⟩

theorem src_cells {w : World} {bA : Option Addr} {n c : Nat} {xs : List Value} (h : Rd (fun _ => True) w (.slice bA n c) xs) : 0 < xs.length → ∃ ad, bA = some ad ∧ ∀ j u, xs[j]? = some u → w.cell? (ad.add j) = some u := by
  intro h0
  obtain ⟨A, c', e, _, _, hA⟩ := h
  injection e with e1 _ _
  subst e1
  obtain ⟨b, off, rfl, _, hcell⟩ := hA (by intro e; rw [e] at h0; simp at h0)
  refine ⟨_, rfl, fun j u hu => ?_⟩
  have : (⟨b, off, none⟩ : Addr).add j = ⟨b, off + j, none⟩ := by unfold Addr.add; split <;> simp_all
  rw [this]
  exact hcell j u hu

theorem splice_overlay (x bs : Bytes) (k m : Nat) (hm : m = k + bs.length - x.length) : splice (bytesV x ++ List.replicate m (.int .u8 0)) k (bytesV bs) = bytesV (overlay x k bs) := by
  have hz : List.replicate m (Value.int .u8 0) = bytesV (List.replicate m 0) := by simp [bytesV]
  unfold splice overlay
  rw [hz, ← hm, bytesV_length, ← bytesV_append, ← bytesV_take, ← bytesV_drop, ← bytesV_append, ← bytesV_append, List.append_assoc]

theorem write_end {w0 w : World} {A B : List Res} {bm pb b : Nat} {t : TypeId} {cs : Array Value} {f : Files} {ys1 ys2 : List ((Bytes × Bytes) × Value)} {name x y : Bytes} {s v : Value} (hp : ((ys1 ++ ((name, x), .pointer (some ⟨b, 0, none⟩)) :: ys2).map (·.1)).Perm f) (hok : Dict.Ok f)
    (h : Held w0 w (rBytes v y :: rBlk pb t cs :: (A ++ rMapB Try.prog 9 bm (filesL (ys1 ++ ((name, x), .pointer (some ⟨b, 0, none⟩)) :: ys2)) :: rBig fileLoc ys1 :: rBlk b 77 #[s] :: rBytes s x :: rBig fileLoc ys2 :: B))) :
    Held w0 (w.setCell ⟨b, 0, none⟩ v) (A ++ rFiles bm (Dict.put f name y) :: B) := by
  have h1 := Held.drop (l1 := [rBytes v y]) h
  have h2 := Held.store (l1 := rBytes v y :: (A ++ [rMapB Try.prog 9 bm (filesL (ys1 ++ ((name, x), .pointer (some ⟨b, 0, none⟩)) :: ys2)), rBig fileLoc ys1])) (by simpa using h1) 0 v
  have h3 := Held.drop (l1 := rBytes v y :: (A ++ [rMapB Try.prog 9 bm (filesL (ys1 ++ ((name, x), .pointer (some ⟨b, 0, none⟩)) :: ys2)), rBig fileLoc ys1, rBlk b 77 #[v]])) (R := rBytes s x) (by simpa using h2)
  have h4 := Held.perm h3 (Rs' := (A ++ [rMapB Try.prog 9 bm (filesL (ys1 ++ ((name, x), .pointer (some ⟨b, 0, none⟩)) :: ys2)), rBig fileLoc ys1, rBlk b 77 #[v]]) ++ rBytes v y :: rBig fileLoc ys2 :: B) (by simpa using (List.perm_middle (a := rBytes v y) (l₁ := A ++ [rMapB Try.prog 9 bm (filesL (ys1 ++ ((name, x), .pointer (some ⟨b, 0, none⟩)) :: ys2)), rBig fileLoc ys1, rBlk b 77 #[v]]) (l₂ := rBig fileLoc ys2 :: B)).symm)
  exact Held.files_back hp (by simpa using h4) hok

theorem perm_new {α : Type} (b g n p m y : α) (A B : List α) : (b :: g :: n :: p :: (A ++ m :: y :: B)).Perm (p :: (A ++ m :: g :: n :: b :: y :: B)) := by
  have h : ([b, g, n] ++ (p :: (A ++ [m])) ++ (y :: B)).Perm ((p :: (A ++ [m])) ++ [g, n, b] ++ (y :: B)) := by
    refine List.Perm.append_right _ (List.perm_append_comm.trans (List.Perm.append_left _ ?_))
    exact List.perm_append_comm (l₁ := [b]) (l₂ := [g, n])
  simpa using h

/-- a new file, with nothing in it yet. -/
theorem write_new {w0 w : World} {A B : List Res} {bm pb nb : Nat} {t : TypeId} {cs : Array Value} {ys ys1 ys2 : List ((Bytes × Bytes) × Value)} {name x : Bytes}
    (h : Held w0 w ((rBlk nb 77 #[.slice none 0 0] :: rBlk pb t cs :: A) ++ rMapB Try.prog 9 bm ((sv name, .pointer (some ⟨nb, 0, none⟩)) :: filesL ys) :: rBig fileLoc ys :: B)) (hy1 : ys1 = []) (hx : x = []) (hy2 : ys2 = ys) :
    Held w0 w (rBlk pb t cs :: (A ++ rMapB Try.prog 9 bm (filesL (ys1 ++ ((name, x), .pointer (some ⟨nb, 0, none⟩)) :: ys2)) :: rBig fileLoc ys1 :: rBlk nb 77 #[.slice none x.length 0] :: rBytes (.slice none x.length 0) x :: rBig fileLoc ys2 :: B)) := by
  subst hy1 hx hy2
  have h1 := Held.nil_own (Held.big_nil fileLoc h) 5
  exact h1.perm (perm_new _ _ _ _ _ _ _ _)

theorem put_begin {f : Files} {ys ys1 ys2 : List ((Bytes × Bytes) × Value)} {name x : Bytes} (hp : (ys.map (·.1)).Perm f) (hok : Dict.Ok f) (hg : Dict.get f name = none) (b : Nat) (hy1 : ys1 = []) (hx : x = []) (hy2 : ys2 = ys) (o : Bytes → Bytes) :
    ((ys1 ++ ((name, x), Value.pointer (some ⟨b, 0, none⟩)) :: ys2).map (·.1)).Perm ((name, x) :: f) ∧ Dict.Ok ((name, x) :: f) ∧ Dict.put ((name, x) :: f) name (o x) = Dict.put f name (o ((none : Option Bytes).getD [])) := by
  subst hy1 hx hy2
  refine ⟨?_, ?_, ?_⟩
  · simpa using hp.cons (name, ([] : Bytes))
  · unfold Dict.Ok
    rw [List.map_cons, List.nodup_cons]
    refine ⟨fun h => ?_, hok⟩
    obtain ⟨p, hp, e⟩ := List.mem_map.1 h
    exact get_none hg p hp e
  · unfold Dict.put Dict.del
    rw [List.filter_cons]
    simp

theorem blk_of_held {w0 w : World} {R1 R2 : Res} {A B : List Res} {R3 R4 : Res} {b : Nat} {t : TypeId} {cs : Array Value} (h : Held w0 w (R1 :: R2 :: (A ++ R3 :: R4 :: rBlk b t cs :: B))) : Blk w b t cs ∧ w.frozen? ⟨b, 0, none⟩ = false := by
  have h1 := Held.blk (l1 := R1 :: R2 :: (A ++ [R3, R4])) (by simpa using h)
  exact ⟨h1, h1.frozen 0⟩

/-- a slice that reads so as long as these things are held. -/
def Src (w0 : World) (A B : List Res) (v : Value) (xs : List Value) : Prop := ∀ w' M, Held w0 w' (A ++ (M ++ B)) → Rd (fun _ => True) w' v xs

set_option maxRecDepth 100000 in
set_option maxHeartbeats 4000000 in
theorem fdoes_write {w0 w : World} {A B : List Res} {bm : Nat} {f : Files} (h : Held w0 w (A ++ rFiles bm f :: B)) (name : Bytes) (k : Nat) (bs : Bytes) (bA : Option Addr) (bc : Nat)
    (hb : Src w0 A B (.slice bA bs.length bc) (bytesV bs))
    (hn : name.length ≤ 9223372036854775807) (hk : k + bs.length ≤ 1073741824) (hfs : ∀ x, Dict.get f name = some x → x.length ≤ 1073741824) :
    Calls Try.prog 40 #[.map (some bm), .agg #[.int .i64 0, sv name, .int .i64 k, .slice bA bs.length bc]] w fun e w' => e = .returned (.tuple #[]) ∧
      Held w0 w' (A ++ rFiles bm (Dict.put f name (overlay ((Dict.get f name).getD []) k bs)) :: B) := by
  have hok := h.files_ok
  have h0 := (h.block 72 #[.int .i64 0, sv name, .int .i64 k, .slice bA bs.length bc])
  obtain ⟨ys, hp, h1⟩ := Held.files_open (A := rBlk w.heap.size 72 #[.int .i64 0, sv name, .int .i64 k, .slice bA bs.length bc] :: A) h0
  obtain ⟨i0, hi, hz0, hz1, hz2⟩ := info_parts Try.info5
  have HI := hid (And.intro hi (And.intro hz0 (And.intro hz1 hz2)))
  have HS := hid hb
  clear hi hz0 hz1 hz2 hb
  cases hg : Dict.get f name with
  | none =>
    obtain ⟨hlk, hno⟩ := h1.files_none hp hn hg
    have hlk' : _ := hlk false
    have h0b := h1.block 77 #[.slice none 0 0]
    rw [World.size_alloc] at h0b
    have HU := hid (Held.map_new (A := rBlk (w.heap.size + 1) 77 #[.slice none 0 0] :: rBlk w.heap.size 72 #[.int .i64 0, sv name, .int .i64 k, .slice bA bs.length bc] :: A) strKeyed Try.underlying48 h0b (svKey name hn) hno (.pointer (some ⟨w.heap.size + 1, 0, none⟩)))
    have HG0 := hid (And.intro hp (And.intro hok hg))
    clear hlk h h0 h1 hp hok hg hfs hno h0b
    go_enter Try.func40, Try.ntmps40
    go_wp2_with (first
      | (at_mapUpdate; refine wpList_mapUpdate_ex _ rfl _ _ _ 48 rfl _ _ _ rfl rfl rfl _ HU.out ?c2))
    case c2 =>
    intro wq hPost
    obtain ⟨ys1, hy1⟩ : ∃ l : List ((Bytes × Bytes) × Value), l = [] := ⟨_, rfl⟩
    obtain ⟨x, hx0⟩ : ∃ l : Bytes, l = [] := ⟨_, rfl⟩
    obtain ⟨ys2, hy2⟩ : ∃ l, l = ys := ⟨_, rfl⟩
    have hx : x.length ≤ 1073741824 := by rw [hx0]; simp
    have h2 := write_new hPost hy1 hx0 hy2
    obtain ⟨sA, sc, hs, q1, q2⟩ : ∃ sA sc, Value.slice none x.length 0 = .slice sA x.length sc ∧ x.length ≤ sc ∧ sc ≤ 9223372036854775807 := ⟨none, 0, rfl, by rw [hx0]; simp, by omega⟩
    rw [hs] at h2
    clear hs
    clear hPost HU
    generalize w.heap.size + 1 = b at *
    have HG := hid (put_begin HG0.out.1 HG0.out.2.1 HG0.out.2.2 b hy1 hx0 hy2 (fun y => overlay y k bs))
    clear hy1 hx0 hy2 HG0
    have hpre : ∀ (w' : World) (R : List Res) (q : Value), Held w0 w' (R ++ (rBlk w.heap.size 72 #[.int .i64 0, sv name, .int .i64 k, .slice bA bs.length bc] :: (A ++ rMapB Try.prog 9 bm (filesL (ys1 ++ ((name, x), .pointer (some ⟨b, 0, none⟩)) :: ys2)) :: rBig fileLoc ys1 :: rBlk b 77 #[q] :: rBytes (.slice sA x.length sc) x :: rBig fileLoc ys2 :: B))) →
        w'.cell? ⟨w.heap.size, 2, none⟩ = some (.int .i64 k) ∧ w'.cell? ⟨w.heap.size, 3, none⟩ = some (.slice bA bs.length bc) ∧ w'.cell? ⟨b, 0, none⟩ = some q := by
      intro w' R q h
      have b1 := Held.blk h
      have b2 := Held.blk (l1 := R ++ (rBlk w.heap.size 72 #[.int .i64 0, sv name, .int .i64 k, .slice bA bs.length bc] :: (A ++ [rMapB Try.prog 9 bm (filesL (ys1 ++ ((name, x), .pointer (some ⟨b, 0, none⟩)) :: ys2)), rBig fileLoc ys1]))) (by simpa using h)
      exact ⟨b1.cell rfl, b1.cell rfl, b2.cell rfl⟩
    obtain ⟨c1, c2, c3⟩ := hpre _ [] _ h2
    have HP := hid hpre
    have HX := hid (Held.bytes (l1 := rBlk w.heap.size 72 #[.int .i64 0, sv name, .int .i64 k, .slice bA bs.length bc] :: (A ++ [rMapB Try.prog 9 bm (filesL (ys1 ++ ((name, x), .pointer (some ⟨b, 0, none⟩)) :: ys2)), rBig fileLoc ys1, rBlk b 77 #[.slice sA x.length sc]])) (by simpa using h2))
    have HH := hid h2
    obtain ⟨m, hm⟩ : ∃ m : Nat, m = k + bs.length - x.length := ⟨_, rfl⟩
    have hw1 : IntKind.i64.wrap ((k : Int) + bs.length) = (k : Int) + bs.length := by rw [IntKind.wrap_i64]; omega
    have hw2 : IntKind.i64.wrap ((k : Int) + bs.length - x.length) = (k : Int) + bs.length - x.length := by rw [IntKind.wrap_i64]; omega
    have HV := hid (show (if 0 < IntKind.i64.wrap (IntKind.i64.wrap ((k : Int) + bs.length) - x.length) then IntKind.i64.wrap (IntKind.i64.wrap ((k : Int) + bs.length) - x.length) else 0) = (m : Int) by
      rw [hw1, hw2]
      split <;> omega)
    have HM := hid hm
    clear hpre h2 hm hw1 hw2
    go_wp2_with fail
    go_region_held3 (fun w' => w'.cell? ⟨w.heap.size, 2, none⟩ = some (.int .i64 k) ∧ w'.cell? ⟨w.heap.size, 3, none⟩ = some (.slice bA bs.length bc) ∧ w'.cell? ⟨b, 0, none⟩ = some (.slice sA x.length sc))
      (first | exact ⟨c1, c2, c3⟩ | exact ⟨d1, d2, d3⟩ | exact ⟨d4, d5, d6⟩)
      (first
        | (go_at_call 36; refine (clone_held (HH.out.step ((Mod.refl _ _).drew)) (fun _ => True) _ x HX.out (by omega)).mono ?_; rintro e w1 ⟨v1, rfl, g1⟩; obtain ⟨d1, d2, d3⟩ := HP.out _ [rBytes v1 x] _ g1; have G1 := hid g1; clear g1)
        | (refine step_max rfl _ _ 3 rfl 0 _ m rfl rfl HV.out ?_)
        | (refine step_zeros_held _ [] _ rfl _ _ 31 3 rfl 5 i0 (.int .u8 0) .i64 .i64 1 Try.underlying31 Try.underlying3 HI.out.1 HI.out.2.1 HI.out.2.2.1 HI.out.2.2.2 rfl rfl _ (bytesV x) x.length (bytesV_length x) rfl G1.out m rfl (by have := HM.out; unfold maxLen; omega) (by have := HM.out; omega) ?_; intro vA vc w2 g2; obtain ⟨d4, d5, d6⟩ := HP.out _ [_] _ g2; have G2 := hid g2; clear g2))
    all_goals
      have HC := hid (src_cells (HS.out w2.drew [rMapB Try.prog 9 bm (filesL (ys1 ++ ((name, x), .pointer (some ⟨b, 0, none⟩)) :: ys2)), rBig fileLoc ys1, rBlk b 77 #[.slice sA x.length sc], rBytes (.slice sA x.length sc) x, rBig fileLoc ys2] (by
        have g := Held.drop (l1 := []) (Held.drop (l1 := []) (G2.out.step ((Mod.refl _ _).drew)))
        simpa using g)))
      have lk1 : (k : Int) ≤ ((x.length + m : Nat) : Int) := by have := HM.out; omega
      have lk2 : k ≤ x.length + m := by have := HM.out; omega
      have lk3 : (0 : Int) ≤ (k : Int) := by omega
      have lk4 : (k : Int) ≤ (x.length : Int) + (m : Int) := by omega
      obtain ⟨lv1, hvA⟩ := own_addr G2.out
      have lk5 : (x.length : Int) + (m : Int) ≤ (vc : Int) := by omega
      have lk6 : (k : Int) ≤ (vc : Int) := by omega
      rcases hvA with ⟨rfl, rfl, hz⟩ | ⟨g, rfl⟩
      · obtain ⟨k', hk'⟩ : ∃ k' : Nat, k' = k := ⟨_, rfl⟩
        have hk0 : k = 0 := by omega
        have HK := hid hk'
        subst hk0
        have lk7 : (0 : Int) ≤ (x.length : Int) + (m : Int) := by omega
        have lk8 : (x.length : Int) + (m : Int) ≤ 0 := by omega
        have lk9 : x.length + m ≤ 0 := by omega
        clear hk' hz
        go_wp2_with fail
        go_region_held3 (fun w' => w'.cell? ⟨w.heap.size, 2, none⟩ = some (.int .i64 (0 : Nat)) ∧ w'.cell? ⟨w.heap.size, 3, none⟩ = some (.slice bA bs.length bc) ∧ w'.cell? ⟨b, 0, none⟩ = some (.slice sA x.length sc))
            (first | exact ⟨d4, d5, d6⟩ | exact ⟨d7, d8, d9⟩)
            (first
              | (refine step_copy_held (l1 := []) rfl _ _ 31 31 rfl 5 Try.underlying31 (by kernel_rfl) _ _ (G2.out.step ((Mod.refl _ _).drew)) _ _ _ _ _ _ rfl rfl (0 : Nat) (bytesV bs) (by have := HM.out; rw [bytesV_length]; exact (Nat.min_eq_left (by omega)).symm) (fun h0 => by exfalso; have := HM.out; rw [bytesV_length] at h0; omega) (by have := HM.out; simp only [List.length_append, bytesV_length, List.length_replicate]; omega) (bytesV_one _) ?_; intro w3 g3; obtain ⟨d7, d8, d9⟩ := HP.out _ [_] _ g3; have G3 := hid g3; clear g3))
        all_goals
          obtain ⟨hb3, hf3⟩ := blk_of_held G3.out
          go_wp2_with fail
          go_end0
          refine ⟨rfl, ?_⟩
          rw [← HG.out.2.2]
          have g3 := G3.out
          rw [splice_overlay x bs 0 m HM.out] at g3
          exact write_end HG.out.1 HG.out.2.1 g3
      · by_cases hck : vc = k
        · subst hck
          go_wp2_with fail
          go_region_held3 (fun w' => w'.cell? ⟨w.heap.size, 2, none⟩ = some (.int .i64 vc) ∧ w'.cell? ⟨w.heap.size, 3, none⟩ = some (.slice bA bs.length bc) ∧ w'.cell? ⟨b, 0, none⟩ = some (.slice sA x.length sc))
            (first | exact ⟨d4, d5, d6⟩ | exact ⟨d7, d8, d9⟩)
            (first
              | (refine step_copy_held (l1 := []) rfl _ _ 31 31 rfl 5 Try.underlying31 (by kernel_rfl) _ _ (G2.out.step ((Mod.refl _ _).drew)) _ _ _ _ _ _ rfl rfl vc (bytesV bs) (by have := HM.out; rw [bytesV_length]; exact (Nat.min_eq_left (by omega)).symm) (fun h0 => by exfalso; have := HM.out; rw [bytesV_length] at h0; omega) (by have := HM.out; simp only [List.length_append, bytesV_length, List.length_replicate]; omega) (bytesV_one _) ?_; intro w3 g3; obtain ⟨d7, d8, d9⟩ := HP.out _ [_] _ g3; have G3 := hid g3; clear g3))
          all_goals
            obtain ⟨hb3, hf3⟩ := blk_of_held G3.out
            go_wp2_with fail
            go_end0
            refine ⟨rfl, ?_⟩
            rw [← HG.out.2.2]
            have g3 := G3.out
            rw [splice_overlay x bs vc m HM.out] at g3
            exact write_end HG.out.1 HG.out.2.1 g3
        · go_wp2_with fail
          go_region_held3 (fun w' => w'.cell? ⟨w.heap.size, 2, none⟩ = some (.int .i64 k) ∧ w'.cell? ⟨w.heap.size, 3, none⟩ = some (.slice bA bs.length bc) ∧ w'.cell? ⟨b, 0, none⟩ = some (.slice sA x.length sc))
            (first | exact ⟨d4, d5, d6⟩ | exact ⟨d7, d8, d9⟩)
            (first
              | (refine step_copy_held (l1 := []) rfl _ _ 31 31 rfl 5 Try.underlying31 (by kernel_rfl) _ _ (G2.out.step ((Mod.refl _ _).drew)) _ _ _ _ _ _ rfl rfl k (bytesV bs) (by have := HM.out; rw [bytesV_length]; exact (Nat.min_eq_left (by omega)).symm) (fun h0 => ⟨fun g' n' c' e => by cases e; first | rfl | (show some _ = some _; congr 1), HC.out h0⟩) (by have := HM.out; simp only [List.length_append, bytesV_length, List.length_replicate]; omega) (bytesV_one _) ?_; intro w3 g3; obtain ⟨d7, d8, d9⟩ := HP.out _ [_] _ g3; have G3 := hid g3; clear g3))
          all_goals
            obtain ⟨hb3, hf3⟩ := blk_of_held G3.out
            go_wp2_with fail
            go_end0
            refine ⟨rfl, ?_⟩
            rw [← HG.out.2.2]
            have g3 := G3.out
            rw [splice_overlay x bs k m HM.out] at g3
            exact write_end HG.out.1 HG.out.2.1 g3
  | some x =>
    have hx := hfs x hg
    obtain ⟨ys1, ys2, b, s, rfl, hlk, h2⟩ := h1.files_some hp hn hg
    have hlk' : _ := hlk false
    obtain ⟨sA, sc, rfl, q1, q2⟩ := Held.form (l1 := rBlk w.heap.size 72 #[.int .i64 0, sv name, .int .i64 k, .slice bA bs.length bc] :: (A ++ [rMapB Try.prog 9 bm (filesL (ys1 ++ ((name, x), .pointer (some ⟨b, 0, none⟩)) :: ys2)), rBig fileLoc ys1, rBlk b 77 #[s]])) (by simpa using h2)
    have HG := hid (And.intro hp (And.intro hok (show Dict.put f name (overlay x k bs) = Dict.put f name (overlay ((some x).getD []) k bs) from rfl)))
    clear hlk h h0 h1 hp hok hg hfs
    have hpre : ∀ (w' : World) (R : List Res) (q : Value), Held w0 w' (R ++ (rBlk w.heap.size 72 #[.int .i64 0, sv name, .int .i64 k, .slice bA bs.length bc] :: (A ++ rMapB Try.prog 9 bm (filesL (ys1 ++ ((name, x), .pointer (some ⟨b, 0, none⟩)) :: ys2)) :: rBig fileLoc ys1 :: rBlk b 77 #[q] :: rBytes (.slice sA x.length sc) x :: rBig fileLoc ys2 :: B))) →
        w'.cell? ⟨w.heap.size, 2, none⟩ = some (.int .i64 k) ∧ w'.cell? ⟨w.heap.size, 3, none⟩ = some (.slice bA bs.length bc) ∧ w'.cell? ⟨b, 0, none⟩ = some q := by
      intro w' R q h
      have b1 := Held.blk h
      have b2 := Held.blk (l1 := R ++ (rBlk w.heap.size 72 #[.int .i64 0, sv name, .int .i64 k, .slice bA bs.length bc] :: (A ++ [rMapB Try.prog 9 bm (filesL (ys1 ++ ((name, x), .pointer (some ⟨b, 0, none⟩)) :: ys2)), rBig fileLoc ys1]))) (by simpa using h)
      exact ⟨b1.cell rfl, b1.cell rfl, b2.cell rfl⟩
    obtain ⟨c1, c2, c3⟩ := hpre _ [] _ h2
    have HP := hid hpre
    have HX := hid (Held.bytes (l1 := rBlk w.heap.size 72 #[.int .i64 0, sv name, .int .i64 k, .slice bA bs.length bc] :: (A ++ [rMapB Try.prog 9 bm (filesL (ys1 ++ ((name, x), .pointer (some ⟨b, 0, none⟩)) :: ys2)), rBig fileLoc ys1, rBlk b 77 #[.slice sA x.length sc]])) (by simpa using h2))
    have HH := hid h2
    obtain ⟨m, hm⟩ : ∃ m : Nat, m = k + bs.length - x.length := ⟨_, rfl⟩
    have hw1 : IntKind.i64.wrap ((k : Int) + bs.length) = (k : Int) + bs.length := by rw [IntKind.wrap_i64]; omega
    have hw2 : IntKind.i64.wrap ((k : Int) + bs.length - x.length) = (k : Int) + bs.length - x.length := by rw [IntKind.wrap_i64]; omega
    have HV := hid (show (if 0 < IntKind.i64.wrap (IntKind.i64.wrap ((k : Int) + bs.length) - x.length) then IntKind.i64.wrap (IntKind.i64.wrap ((k : Int) + bs.length) - x.length) else 0) = (m : Int) by
      rw [hw1, hw2]
      split <;> omega)
    have HM := hid hm
    clear hpre h2 hm hw1 hw2
    go_enter Try.func40, Try.ntmps40
    go_wp2_with fail
    go_region_held3 (fun w' => w'.cell? ⟨w.heap.size, 2, none⟩ = some (.int .i64 k) ∧ w'.cell? ⟨w.heap.size, 3, none⟩ = some (.slice bA bs.length bc) ∧ w'.cell? ⟨b, 0, none⟩ = some (.slice sA x.length sc))
      (first | exact ⟨c1, c2, c3⟩ | exact ⟨d1, d2, d3⟩ | exact ⟨d4, d5, d6⟩)
      (first
        | (go_at_call 36; refine (clone_held (HH.out.step ((Mod.refl _ _).drew)) (fun _ => True) _ x HX.out (by omega)).mono ?_; rintro e w1 ⟨v1, rfl, g1⟩; obtain ⟨d1, d2, d3⟩ := HP.out _ [rBytes v1 x] _ g1; have G1 := hid g1; clear g1)
        | (refine step_max rfl _ _ 3 rfl 0 _ m rfl rfl HV.out ?_)
        | (refine step_zeros_held _ [] _ rfl _ _ 31 3 rfl 5 i0 (.int .u8 0) .i64 .i64 1 Try.underlying31 Try.underlying3 HI.out.1 HI.out.2.1 HI.out.2.2.1 HI.out.2.2.2 rfl rfl _ (bytesV x) x.length (bytesV_length x) rfl G1.out m rfl (by have := HM.out; unfold maxLen; omega) (by have := HM.out; omega) ?_; intro vA vc w2 g2; obtain ⟨d4, d5, d6⟩ := HP.out _ [_] _ g2; have G2 := hid g2; clear g2))
    all_goals
      have HC := hid (src_cells (HS.out w2.drew [rMapB Try.prog 9 bm (filesL (ys1 ++ ((name, x), .pointer (some ⟨b, 0, none⟩)) :: ys2)), rBig fileLoc ys1, rBlk b 77 #[.slice sA x.length sc], rBytes (.slice sA x.length sc) x, rBig fileLoc ys2] (by
        have g := Held.drop (l1 := []) (Held.drop (l1 := []) (G2.out.step ((Mod.refl _ _).drew)))
        simpa using g)))
      have lk1 : (k : Int) ≤ ((x.length + m : Nat) : Int) := by have := HM.out; omega
      have lk2 : k ≤ x.length + m := by have := HM.out; omega
      have lk3 : (0 : Int) ≤ (k : Int) := by omega
      have lk4 : (k : Int) ≤ (x.length : Int) + (m : Int) := by omega
      obtain ⟨lv1, hvA⟩ := own_addr G2.out
      have lk5 : (x.length : Int) + (m : Int) ≤ (vc : Int) := by omega
      have lk6 : (k : Int) ≤ (vc : Int) := by omega
      rcases hvA with ⟨rfl, rfl, hz⟩ | ⟨g, rfl⟩
      · obtain ⟨k', hk'⟩ : ∃ k' : Nat, k' = k := ⟨_, rfl⟩
        have hk0 : k = 0 := by omega
        have HK := hid hk'
        subst hk0
        have lk7 : (0 : Int) ≤ (x.length : Int) + (m : Int) := by omega
        have lk8 : (x.length : Int) + (m : Int) ≤ 0 := by omega
        have lk9 : x.length + m ≤ 0 := by omega
        clear hk' hz
        go_wp2_with fail
        go_region_held3 (fun w' => w'.cell? ⟨w.heap.size, 2, none⟩ = some (.int .i64 (0 : Nat)) ∧ w'.cell? ⟨w.heap.size, 3, none⟩ = some (.slice bA bs.length bc) ∧ w'.cell? ⟨b, 0, none⟩ = some (.slice sA x.length sc))
            (first | exact ⟨d4, d5, d6⟩ | exact ⟨d7, d8, d9⟩)
            (first
              | (refine step_copy_held (l1 := []) rfl _ _ 31 31 rfl 5 Try.underlying31 (by kernel_rfl) _ _ (G2.out.step ((Mod.refl _ _).drew)) _ _ _ _ _ _ rfl rfl (0 : Nat) (bytesV bs) (by have := HM.out; rw [bytesV_length]; exact (Nat.min_eq_left (by omega)).symm) (fun h0 => by exfalso; have := HM.out; rw [bytesV_length] at h0; omega) (by have := HM.out; simp only [List.length_append, bytesV_length, List.length_replicate]; omega) (bytesV_one _) ?_; intro w3 g3; obtain ⟨d7, d8, d9⟩ := HP.out _ [_] _ g3; have G3 := hid g3; clear g3))
        all_goals
          obtain ⟨hb3, hf3⟩ := blk_of_held G3.out
          go_wp2_with fail
          go_end0
          refine ⟨rfl, ?_⟩
          rw [← HG.out.2.2]
          have g3 := G3.out
          rw [splice_overlay x bs 0 m HM.out] at g3
          exact write_end HG.out.1 HG.out.2.1 g3
      · by_cases hck : vc = k
        · subst hck
          go_wp2_with fail
          go_region_held3 (fun w' => w'.cell? ⟨w.heap.size, 2, none⟩ = some (.int .i64 vc) ∧ w'.cell? ⟨w.heap.size, 3, none⟩ = some (.slice bA bs.length bc) ∧ w'.cell? ⟨b, 0, none⟩ = some (.slice sA x.length sc))
            (first | exact ⟨d4, d5, d6⟩ | exact ⟨d7, d8, d9⟩)
            (first
              | (refine step_copy_held (l1 := []) rfl _ _ 31 31 rfl 5 Try.underlying31 (by kernel_rfl) _ _ (G2.out.step ((Mod.refl _ _).drew)) _ _ _ _ _ _ rfl rfl vc (bytesV bs) (by have := HM.out; rw [bytesV_length]; exact (Nat.min_eq_left (by omega)).symm) (fun h0 => by exfalso; have := HM.out; rw [bytesV_length] at h0; omega) (by have := HM.out; simp only [List.length_append, bytesV_length, List.length_replicate]; omega) (bytesV_one _) ?_; intro w3 g3; obtain ⟨d7, d8, d9⟩ := HP.out _ [_] _ g3; have G3 := hid g3; clear g3))
          all_goals
            obtain ⟨hb3, hf3⟩ := blk_of_held G3.out
            go_wp2_with fail
            go_end0
            refine ⟨rfl, ?_⟩
            rw [← HG.out.2.2]
            have g3 := G3.out
            rw [splice_overlay x bs vc m HM.out] at g3
            exact write_end HG.out.1 HG.out.2.1 g3
        · go_wp2_with fail
          go_region_held3 (fun w' => w'.cell? ⟨w.heap.size, 2, none⟩ = some (.int .i64 k) ∧ w'.cell? ⟨w.heap.size, 3, none⟩ = some (.slice bA bs.length bc) ∧ w'.cell? ⟨b, 0, none⟩ = some (.slice sA x.length sc))
            (first | exact ⟨d4, d5, d6⟩ | exact ⟨d7, d8, d9⟩)
            (first
              | (refine step_copy_held (l1 := []) rfl _ _ 31 31 rfl 5 Try.underlying31 (by kernel_rfl) _ _ (G2.out.step ((Mod.refl _ _).drew)) _ _ _ _ _ _ rfl rfl k (bytesV bs) (by have := HM.out; rw [bytesV_length]; exact (Nat.min_eq_left (by omega)).symm) (fun h0 => ⟨fun g' n' c' e => by cases e; first | rfl | (show some _ = some _; congr 1), HC.out h0⟩) (by have := HM.out; simp only [List.length_append, bytesV_length, List.length_replicate]; omega) (bytesV_one _) ?_; intro w3 g3; obtain ⟨d7, d8, d9⟩ := HP.out _ [_] _ g3; have G3 := hid g3; clear g3))
          all_goals
            obtain ⟨hb3, hf3⟩ := blk_of_held G3.out
            go_wp2_with fail
            go_end0
            refine ⟨rfl, ?_⟩
            rw [← HG.out.2.2]
            have g3 := G3.out
            rw [splice_overlay x bs k m HM.out] at g3
            exact write_end HG.out.1 HG.out.2.1 g3
end Go.Proofs.Ytkednbkildkkmaa
