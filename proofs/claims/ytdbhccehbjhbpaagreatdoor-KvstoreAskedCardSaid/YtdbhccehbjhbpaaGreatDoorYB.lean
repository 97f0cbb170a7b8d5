/- kvstore: a law. (Several texts in one file, by mz.py.) -/
import Derived.Test.YtdbhccehbjhbpaaGreatDoorYA
import Derived.Test.YtdbhccehbjhbpaaGreatDoorK17
import Derived.StillTailTactics

/- the reference, disk: lists of files: find, without, put. -/
namespace Go.Proofs.YtdbhccehbjhbpaaGreatDoor
open Go.RowKit

/-- a file of the reference: its name, its slice, how many. -/
structure RF where
  name : List UInt8
  A : Option Addr
  len : Nat
  c : Nat
  n : Nat
def frow (f : RF) : List Value := [sv f.name, .slice f.A f.len f.c, .int .i64 f.n]
def rFl (u : Value) (fs : List RF) : Res := rRows 3 196 u (fs.map frow)
theorem RdRows.cells {k : Nat} {S : Nat → Prop} {w : World} {A : Option Addr} {n c : Nat} {rows : List (List Value)} (h : RdRows k S w (.slice A n c) rows) {i : Nat} {r : List Value} (hi : rows[i]? = some r) : ∃ b off, A = some ⟨b, off, none⟩ ∧ ∀ j u, r[j]? = some u → w.cell? ⟨b, off + i * k + j, none⟩ = some u := by
  obtain ⟨-, A', c', hv, -, -, hA⟩ := h
  injection hv with e1
  subst e1
  obtain ⟨b, off, e, -, hc⟩ := hA (by intro e; rw [e] at hi; simp at hi)
  exact ⟨b, off, e, fun j u hu => hc i j r u hi hu⟩
structure RFAt (w : World) (b off : Nat) (f : RF) : Prop where
  c0 : w.cell? ⟨b, off, none⟩ = some (.string ⟨f.name.toArray⟩)
  c1 : w.cell? ⟨b, off + 1, none⟩ = some (.slice f.A f.len f.c)
  c2 : w.cell? ⟨b, off + 2, none⟩ = some (.int .i64 f.n)
theorem RdRows.rf {S : Nat → Prop} {w : World} {A : Option Addr} {n c : Nat} {fs : List RF} (h : RdRows 3 S w (.slice A n c) (fs.map frow)) {k : Nat} (hk : k < fs.length) : ∃ b off, A = some ⟨b, off, none⟩ ∧ RFAt w b (off + k * 3) fs[k] := by
  obtain ⟨b, off, e, hc⟩ := h.cells (i := k) (r := frow fs[k]) (by rw [List.getElem?_map, List.getElem?_eq_getElem hk]; rfl)
  exact ⟨b, off, e, hc 0 _ rfl, hc 1 _ rfl, hc 2 _ rfl⟩
theorem RdRows.form3 {S : Nat → Prop} {w : World} {u : Value} {fs : List RF} (h : RdRows 3 S w u (fs.map frow)) : ∃ A c, u = .slice A fs.length c ∧ fs.length ≤ c ∧ c ≤ 9223372036854775807 := by
  obtain ⟨-, A, c, hv, h1, h2, -⟩ := h
  rw [List.length_map] at hv h1
  exact ⟨A, c, hv, h1, h2⟩

/-- what find hands back. -/
def FindIs (fs : List RF) (name : List UInt8) (z : Int) : Prop :=
  (∃ i : Nat, ∃ h : i < fs.length, z = i ∧ fs[i].name = name ∧ ∀ j (hj : j < fs.length), j < i → fs[j].name ≠ name) ∨ (z = -1 ∧ ∀ f ∈ fs, f.name ≠ name)
set_option maxRecDepth 100000 in
theorem rfind_any {S : Nat → Prop} (w : World) (u : Value) (fs : List RF) (h : RdRows 3 S w u (fs.map frow)) (name : List UInt8) :
    Calls Tryz.prog 145 #[u, sv name] w fun e w' => ∃ z, FindIs fs name z ∧ e = .returned (.int .i64 z) ∧ w' = w := by
  obtain ⟨A, c, rfl, hc, hm⟩ := h.form3
  have HH := hid h
  obtain ⟨n, hn⟩ : ∃ n, n = fs.length := ⟨_, rfl⟩
  have HN := hid hn
  rw [← hn] at hc HH ⊢
  unfold sv
  clear h hn
  go_enter Tryz.func145, Tryz.ntmps145
  go_wp2_with fail
  go_loopw [8] (fun iv wr => ∃ k : Nat, k ≤ n ∧ iv = .int .i64 k ∧ (∀ j (hj : j < fs.length), j < k → fs[j].name ≠ name) ∧ wr = w) (fun iv _ => n - (intOf iv).toNat)
  case atStart => exact ⟨0, Nat.zero_le _, rfl, fun j _ h => absurd h (by omega), rfl⟩
  case round =>
    obtain ⟨k, hk, rfl, hne, rfl⟩ := hrel
    have HNE := hid hne
    clear hne
    by_cases hlt : k < n
    · have hlk : k < fs.length := by rw [← HN.out]; exact hlt
      obtain ⟨b, off, rfl, d0, d1, d2⟩ := HH.out.rf hlk
      have hltn : (k : Int) < (n : Int) := by omega
      have hk0 : (0 : Int) ≤ (k : Int) := by omega
      by_cases he : fs[k].name = name
      · have HF := hid (show FindIs fs name (k : Int) from .inl ⟨k, hlk, rfl, he, HNE.out⟩)
        rw [he] at d0
        generalize fs[k] = f at *
        clear he
        go_wp2_with fail
        go_ret
        exact ⟨_, HF.out, rfl, rfl⟩
      · have HK := hid (show ∀ j (hj : j < fs.length), j < k + 1 → fs[j].name ≠ name from fun j hj h => by
          rcases Nat.lt_or_ge j k with h1 | h1
          · exact HNE.out j hj h1
          · have : j = k := by omega
            subst this
            exact he)
        have hkb : (fs[k].name == name) = false := by rw [beq_eq_false_iff_ne]; exact he
        generalize fs[k] = f at *
        generalize f.name = fn at *
        go_wp2_with fail
        all_goals first | exact absurd (by assumption) he | skip
        exact ⟨⟨k + 1, by omega, by congr 1, HK.out, by first | rfl | trivial⟩, by show n - ((k : Int) + 1).toNat < n - (k : Int).toNat; omega⟩
    · have hltn : ¬ ((k : Int) < (n : Int)) := by omega
      have HF := hid (show FindIs fs name (-1) from .inr ⟨rfl, fun f hf => by
        obtain ⟨i, hi, rfl⟩ := List.mem_iff_getElem.1 hf
        exact HNE.out i hi (by have := HN.out; omega)⟩)
      go_wp2_with fail
      go_ret
      exact ⟨_, HF.out, rfl, rfl⟩

theorem Tryz.infoFile : (Tryz.prog.info? 196).map (fun i => (i.zero, i.size, i.bytes)) = some (some (.agg #[.string ⟨#[]⟩, .slice none 0 0, .int .i64 0]), 3, 48) := by kernel_rfl
/-- files but one. -/
def fwo (fs : List RF) (name : List UInt8) : List RF := fs.filter fun f => f.name != name
theorem fwo_yes {fs : List RF} {name : List UInt8} {k : Nat} (hk : k < fs.length) (h : fs[k].name ≠ name) : fwo (fs.take (k + 1)) name = fwo (fs.take k) name ++ [fs[k]] := by
  unfold fwo
  rw [List.take_succ_eq_append_getElem hk, List.filter_append]
  simp [h]
theorem fwo_no {fs : List RF} {name : List UInt8} {k : Nat} (hk : k < fs.length) (h : fs[k].name = name) : fwo (fs.take (k + 1)) name = fwo (fs.take k) name := by
  unfold fwo
  rw [List.take_succ_eq_append_getElem hk, List.filter_append]
  simp [h]
theorem frow_one (f : RF) : ∀ y ∈ frow f, y.oneCell' = true := by
  intro y hy
  unfold frow sv at hy
  simp only [List.mem_cons, List.not_mem_nil, or_false] at hy
  rcases hy with rfl | rfl | rfl <;> rfl
theorem Held.fl_form {w0 w : World} {B : List Res} {u : Value} {fs : List RF} (h : Held w0 w (rFl u fs :: B)) : ∃ A c, u = .slice A fs.length c ∧ fs.length ≤ c ∧ c ≤ 9223372036854775807 := (Held.rows_rd h).form3
theorem heap_at (w : World) (o : Obj) {n : Nat} (hn : w.heap.size = n) : (w.alloc o).heap[n]? = some o := by subst hn; exact heap_alloc_new w o
/-- append of one file. -/
theorem wpl_file {w0 w : World} {ops : Array Oper} {rest : List Oper} {o : Oper} {a : Act} {Q : Exit → Act → World → Prop} {B : List Res} (hgd : o.guard = none) (s x : Operand)
    (ho : o.op = .call { callee := .builtin .append, args := #[s, x], argTypes := #[95, 95] })
    (v : Value) (fs : List RF) (hs : a.eval s = v) (hh : Held w0 w (rFl v fs :: B)) (ad : Addr) (c : Nat) (f : RF) (hx : a.eval x = .slice (some ad) 1 c) (hcell : ∀ j u, (frow f)[j]? = some u → w.cell? (ad.add j) = some u) (hb : fs.length ≤ 1000000)
    (h : ∀ A c w', Held w0 w' (rFl (.slice A (fs.length + 1) c) (fs ++ [f]) :: B) → wpList Tryz.prog ops Q rest (a.put o.dst (.slice A (fs.length + 1) c)) w') : wpList Tryz.prog ops Q (o :: rest) a w := by
  obtain ⟨iI, ii, iz, is, ib⟩ := info_parts Tryz.infoFile
  refine wpList_append_row [] B hgd s x 95 ho 3 196 iI _ 48 Tryz.underlying95 ii iz is ib rfl (by decide) v (fs.map frow) fs.length (List.length_map ..) hs hh ad c (frow f) hx rfl hcell (frow_one f) (by omega) (by unfold maxLen; omega) ?_
  intro A c' w' _ _ g
  refine h A c' w' ?_
  unfold rFl
  rw [List.map_append]
  exact g

set_option maxRecDepth 100000 in
theorem rwithout_held {w0 w : World} {B : List Res} {u : Value} {fs : List RF} (h : Held w0 w (rFl u fs :: B)) (name : List UInt8) (hl : fs.length ≤ 10000) :
    Calls Tryz.prog 189 #[u, sv name] w fun e w' => ∃ v', e = .returned v' ∧ Held w0 w' (rFl v' (fwo fs name) :: rFl u fs :: B) := by
  obtain ⟨A, c, rfl, hc, hm⟩ := h.fl_form
  have HH := hid (show Held w0 w (rFl (.slice none 0 0) (fwo (fs.take 0) name) :: rFl (.slice A fs.length c) fs :: B) from h.rows_nil 3 196)
  obtain ⟨n, hn⟩ : ∃ n, n = fs.length := ⟨_, rfl⟩
  have HN := hid hn
  rw [← hn] at hc hl HH ⊢
  unfold sv
  clear h hn
  go_enter Tryz.func189, Tryz.ntmps189
  go_wp2_with fail
  go_loopw [5, 10] (fun out iv wr => ∃ k : Nat, k ≤ n ∧ iv = .int .i64 k ∧ Held w0 wr (rFl out (fwo (fs.take k) name) :: rFl (.slice A n c) fs :: B)) (fun _ iv _ => n - (intOf iv).toNat)
  case atStart => exact ⟨0, Nat.zero_le _, rfl, HH.out⟩
  case round =>
    clear HH
    obtain ⟨k, hk, rfl, hh⟩ := hrel
    obtain ⟨oA, oc, rfl, -, -⟩ := hh.fl_form
    have hol : (fwo (fs.take k) name).length ≤ 10000 := by
      have := List.length_filter_le (fun f : RF => f.name != name) (fs.take k)
      rw [List.length_take] at this
      unfold fwo
      omega
    by_cases hlt : k < n
    · have hlk : k < fs.length := by rw [← HN.out]; exact hlt
      obtain ⟨b, off, rfl, d0, d1, d2⟩ := (Held.rows_rd hh.pull1).rf hlk
      have hltn : (k : Int) < (n : Int) := by omega
      have hk0 : (0 : Int) ≤ (k : Int) := by omega
      by_cases he : fs[k].name = name
      · have HF := hid (fwo_no hlk he)
        rw [he] at d0
        generalize fs[k] = f at *
        have G := hid (hh.alloc (.cells #[.string ⟨name.toArray⟩, .slice f.A f.len f.c, .int .i64 f.n] 196))
        clear he hh
        generalize fwo (fs.take k) name = out at *
        go_wp2_with fail
        refine ⟨⟨k + 1, by omega, by congr 1, ?_⟩, by show n - ((k : Int) + 1).toNat < n - (k : Int).toNat; omega⟩
        rw [HF.out]
        exact G.out
      · have HF := hid (fwo_yes hlk he)
        have hkb : (fs[k].name == name) = false := by rw [beq_eq_false_iff_ne]; exact he
        generalize fs[k] = f at *
        have hrow : frow f = [.string ⟨f.name.toArray⟩, .slice f.A f.len f.c, .int .i64 f.n] := rfl
        have G := hid (hh.alloc (.cells #[.string ⟨f.name.toArray⟩, .slice f.A f.len f.c, .int .i64 f.n] 196))
        clear hh
        have HO := hid hol
        generalize fwo (fs.take k) name = out at *
        have hkb2 : ¬ (f.name = name) := he
        clear hol
        go_wp2_with (at_builtin; refine wpl_file rfl _ _ rfl _ out rfl (G.out.alloc _) _ _ f rfl (World.news_of_block (heap_at _ _ (asz _ _))) (by have := HO.out; omega) ?c1)
        all_goals first | exact absurd (by assumption) he | skip
        case c1 =>
          intro A' c' w' g
          have G2 := hid g
          clear g G
          go_wp2_with fail
          refine ⟨⟨k + 1, by omega, by congr 1, ?_⟩, by show n - ((k : Int) + 1).toNat < n - (k : Int).toNat; omega⟩
          rw [HF.out]
          exact G2.out
    · have hltn : ¬ ((k : Int) < (n : Int)) := by omega
      have hkn : k = n := by omega
      subst hkn
      generalize (fwo (fs.take k) name).length = ol at *
      rw [List.take_of_length_le (by rw [← HN.out]; exact Nat.le_refl _)] at hh
      have HH2 := hid hh
      clear hh
      go_wp2_with fail
      go_ret
      exact ⟨_, rfl, HH2.out⟩
end Go.Proofs.YtdbhccehbjhbpaaGreatDoor

/- the reference, disk: put. -/
namespace Go.Proofs.YtdbhccehbjhbpaaGreatDoor
open Go.RowKit

def fcells (f : RF) : Array Value := #[.string ⟨f.name.toArray⟩, .slice f.A f.len f.c, .int .i64 f.n]
def insStep (f : RF) (s : List RF × Bool) (x : RF) : List RF × Bool := if !s.2 && Op.bytesLess f.name x.name then (s.1 ++ [f] ++ [x], true) else (s.1 ++ [x], s.2)
def insS (f : RF) (l : List RF) : List RF × Bool := l.foldl (insStep f) ([], false)
/-- files with one more, by their names. -/
def fput (fs : List RF) (f : RF) : List RF := if (insS f (fwo fs f.name)).2 then (insS f (fwo fs f.name)).1 else (insS f (fwo fs f.name)).1 ++ [f]
theorem insS_next (f : RF) {l : List RF} {k : Nat} (hk : k < l.length) : insS f (l.take (k + 1)) = insStep f (insS f (l.take k)) l[k] := by
  unfold insS
  rw [List.take_succ_eq_append_getElem hk, List.foldl_append]
  rfl
theorem insStep_len (f : RF) (s : List RF × Bool) (x : RF) : (insStep f s x).1.length ≤ s.1.length + 2 := by
  unfold insStep
  split <;> simp
theorem insS_len (f : RF) (l : List RF) : (insS f l).1.length ≤ 2 * l.length := by
  have h : ∀ (l : List RF) (s : List RF × Bool), (l.foldl (insStep f) s).1.length ≤ s.1.length + 2 * l.length := by
    intro l
    induction l with
    | nil => intro s; simp
    | cons x l ih =>
      intro s
      have h1 := ih (insStep f s x)
      have h2 := insStep_len f s x
      rw [List.foldl_cons, List.length_cons]
      omega
  have := h l ([], false)
  unfold insS
  simpa using this

set_option maxRecDepth 100000 in
set_option maxHeartbeats 1000000 in
theorem rput_held {w0 w : World} {B : List Res} {u : Value} {fs : List RF} (h : Held w0 w (rFl u fs :: B)) (f : RF) (hl : fs.length ≤ 10000) :
    Calls Tryz.prog 186 #[u, .agg (fcells f)] w fun e w' => ∃ v', e = .returned v' ∧ Held w0 w' (rFl v' (fput fs f) :: rFl u fs :: B) := by
  obtain ⟨A, c, rfl, hc, hm⟩ := h.fl_form
  have h1 := h.block 196 (fcells f)
  have x0 : (w.alloc (.cells (fcells f) 196)).cell? ⟨w.heap.size, 0, none⟩ = some (.string ⟨f.name.toArray⟩) := h1.blk0.cell rfl
  have x1 : (w.alloc (.cells (fcells f) 196)).cell? ⟨w.heap.size, 1, none⟩ = some (.slice f.A f.len f.c) := h1.blk0.cell rfl
  have x2 : (w.alloc (.cells (fcells f) 196)).cell? ⟨w.heap.size, 2, none⟩ = some (.int .i64 f.n) := h1.blk0.cell rfl
  have HW := hid (rwithout_held h1.pull1 f.name hl)
  obtain ⟨ws, hws⟩ : ∃ ws, ws = fwo fs f.name := ⟨_, rfl⟩
  have HWS := hid hws
  have hwl : ws.length ≤ 10000 := by
    have := List.length_filter_le (fun g : RF => g.name != f.name) fs
    rw [hws]
    unfold fwo
    omega
  rw [← hws] at HW
  have HR := hid (show fput fs f = if (insS f ws).2 then (insS f ws).1 else (insS f ws).1 ++ [f] by unfold fput; rw [← hws])
  obtain ⟨res, hres⟩ : ∃ res, res = fput fs f := ⟨_, rfl⟩
  have HRS := hid (hres.trans HR.out)
  rw [← hres]
  clear hres HR
  obtain ⟨m, hm2⟩ : ∃ m, m = ws.length := ⟨_, rfl⟩
  have HM := hid hm2
  rw [← hm2] at hwl
  unfold sv at HW
  unfold fcells at x0 x1 x2 HW ⊢
  obtain ⟨fl, hfl⟩ : ∃ fl, fl = fs.length := ⟨_, rfl⟩
  rw [← hfl] at hc hl HW ⊢
  clear h h1 hws hm2 hfl
  obtain ⟨nm, fA, fn, fc, fz⟩ := f
  dsimp only at x0 x1 x2 HW ⊢
  go_enter Tryz.func186, Tryz.ntmps186
  go_wp2_with fail
  refine HW.out.mono ?_
  rintro e w1 ⟨vw, rfl, g1⟩
  obtain ⟨wA, wc, rfl, hwc1, hwc2⟩ := g1.fl_form
  have HH := hid (show Held w0 w1 (rFl (.slice none 0 0) (insS ⟨nm, fA, fn, fc, fz⟩ (ws.take 0)).1 :: rFl (.slice wA ws.length wc) ws :: rBlk w.heap.size 196 #[.string ⟨nm.toArray⟩, .slice fA fn fc, .int .i64 fz] :: rFl (.slice A fl c) fs :: B) from (g1.pull2.pull1).rows_nil 3 196)
  generalize w.heap.size = fb at *
  rw [← HM.out] at hwc1 HH ⊢
  clear g1 HW x0 x1 x2
  go_wp2_with fail
  go_loopw [5, 6, 14] (fun out dv iv wr => ∃ k : Nat, k ≤ m ∧ iv = .int .i64 k ∧ dv = .bool (insS ⟨nm, fA, fn, fc, fz⟩ (ws.take k)).2 ∧ Held w0 wr (rFl out (insS ⟨nm, fA, fn, fc, fz⟩ (ws.take k)).1 :: rFl (.slice wA m wc) ws :: rBlk fb 196 #[.string ⟨nm.toArray⟩, .slice fA fn fc, .int .i64 fz] :: rFl (.slice A fl c) fs :: B)) (fun _ _ iv _ => m - (intOf iv).toNat)
  case atStart => exact ⟨0, Nat.zero_le _, rfl, rfl, HH.out⟩
  case round =>
    clear HH
    obtain ⟨k, hk, rfl, rfl, hh⟩ := hrel
    obtain ⟨oA, oc, rfl, -, -⟩ := hh.fl_form
    have hol : (insS ⟨nm, fA, fn, fc, fz⟩ (ws.take k)).1.length ≤ 20000 := by
      have := insS_len ⟨nm, fA, fn, fc, fz⟩ (ws.take k)
      rw [List.length_take] at this
      omega
    have z0 : wr.cell? ⟨fb, 0, none⟩ = some (.string ⟨nm.toArray⟩) := hh.pull2.blk0.cell rfl
    have z1 : wr.cell? ⟨fb, 1, none⟩ = some (.slice fA fn fc) := hh.pull2.blk0.cell rfl
    have z2 : wr.cell? ⟨fb, 2, none⟩ = some (.int .i64 fz) := hh.pull2.blk0.cell rfl
    by_cases hlt : k < m
    · have hlk : k < ws.length := by rw [← HM.out]; exact hlt
      obtain ⟨b, off, rfl, d0, d1, d2⟩ := (Held.rows_rd hh.pull1).rf hlk
      have HNX := hid (insS_next ⟨nm, fA, fn, fc, fz⟩ hlk)
      have hltn : (k : Int) < (m : Int) := by omega
      have hk0 : (0 : Int) ≤ (k : Int) := by omega
      generalize ws[k] = x at *
      obtain ⟨xn, xA, xl, xc, xz⟩ := x
      dsimp only at d0 d1 d2
      have g8 := hh.block 196 #[.string ⟨xn.toArray⟩, .slice xA xl xc, .int .i64 xz]
      have t0 := g8.pull3.blk0.cell (i := 0) rfl
      have t1 := g8.pull3.blk0.cell (i := 1) rfl
      have t2 := g8.pull3.blk0.cell (i := 2) rfl
      have HO := hid hol
      have GX := hid g8.pull1
      have G := hid g8.drop0
      clear hh g8 hol
      unfold insStep at HNX
      dsimp only at HNX
      generalize insS ⟨nm, fA, fn, fc, fz⟩ (ws.take k) = st at *
      obtain ⟨out, dn⟩ := st
      dsimp only at HNX HO G GX
      cases dn with
      | true =>
        have HN2 := hid (HNX.out.trans (show _ = (out ++ [⟨xn, xA, xl, xc, xz⟩], true) from rfl))
        clear HNX
        go_wp2_with (at_builtin; refine wpl_file rfl _ _ rfl _ out rfl (G.out.alloc _) _ _ ⟨xn, xA, xl, xc, xz⟩ rfl (World.news_of_block (heap_at _ _ (asz _ _))) (by have := HO.out; omega) ?c1)
        case c1 =>
          intro A' c' w' g
          have G2 := hid g
          clear g G
          go_wp2_with fail
          refine ⟨⟨k + 1, by omega, by congr 1, ?_, ?_⟩, by show m - ((k : Int) + 1).toNat < m - (k : Int).toNat; omega⟩
          · rw [HN2.out]
          · rw [HN2.out]; exact G2.out
      | false =>
        cases hb : Op.bytesLess nm xn with
        | true =>
          rw [hb] at HNX
          have HN2 := hid (HNX.out.trans (show _ = (out ++ [⟨nm, fA, fn, fc, fz⟩] ++ [⟨xn, xA, xl, xc, xz⟩], true) from rfl))
          clear HNX
          go_wp2_with (at_builtin; refine wpl_file rfl _ _ rfl _ out rfl (GX.out.alloc _) _ _ ⟨nm, fA, fn, fc, fz⟩ rfl (World.news_of_block (heap_at _ _ (asz _ _))) (by have := HO.out; omega) ?c1)
          case c1 =>
            intro A' c' w' g
            have u0 : w'.cell? ⟨wr.heap.size, 0, none⟩ = some (.string ⟨xn.toArray⟩) := g.pull1.blk0.cell rfl
            have u1 : w'.cell? ⟨wr.heap.size, 1, none⟩ = some (.slice xA xl xc) := g.pull1.blk0.cell rfl
            have u2 : w'.cell? ⟨wr.heap.size, 2, none⟩ = some (.int .i64 xz) := g.pull1.blk0.cell rfl
            have G2 := hid g
            generalize wr.heap.size = xb at *
            have HO2 := hid (show (out ++ [(⟨nm, fA, fn, fc, fz⟩ : RF)]).length = out.length + 1 by simp)
            generalize out ++ [(⟨nm, fA, fn, fc, fz⟩ : RF)] = out2 at *
            rw [← HO2.out] at G2 ⊢
            clear g G GX
            go_wp2_with (at_builtin; refine wpl_file rfl _ _ rfl _ out2 rfl (G2.out.alloc _) _ _ ⟨xn, xA, xl, xc, xz⟩ rfl (World.news_of_block (heap_alloc_new _ _)) (by have := HO.out; have := HO2.out; omega) ?c2)
            case c2 =>
              intro A2 c2 w2 g
              have G3 := hid g.pull1.drop0
              clear g G2
              go_wp2_with fail
              refine ⟨⟨k + 1, by omega, by congr 1, ?_, ?_⟩, by show m - ((k : Int) + 1).toNat < m - (k : Int).toNat; omega⟩
              · rw [HN2.out]
              · rw [HN2.out]; exact G3.out
        | false =>
          rw [hb] at HNX
          have HN2 := hid (HNX.out.trans (show _ = (out ++ [⟨xn, xA, xl, xc, xz⟩], false) from rfl))
          clear HNX
          go_wp2_with (at_builtin; refine wpl_file rfl _ _ rfl _ out rfl (G.out.alloc _) _ _ ⟨xn, xA, xl, xc, xz⟩ rfl (World.news_of_block (heap_at _ _ (asz _ _))) (by have := HO.out; omega) ?c1)
          case c1 =>
            intro A' c' w' g
            have G2 := hid g
            clear g G
            go_wp2_with fail
            refine ⟨⟨k + 1, by omega, by congr 1, ?_, ?_⟩, by show m - ((k : Int) + 1).toNat < m - (k : Int).toNat; omega⟩
            · rw [HN2.out]
            · rw [HN2.out]; exact G2.out
    · have hltn : ¬ ((k : Int) < (m : Int)) := by omega
      have hkm : k = m := by omega
      subst hkm
      rw [List.take_of_length_le (by rw [← HM.out]; exact Nat.le_refl _)] at hh hol ⊢
      obtain ⟨⟨out, dn⟩, hst⟩ : ∃ st, st = insS ⟨nm, fA, fn, fc, fz⟩ ws := ⟨_, rfl⟩
      rw [← hst] at hh hol ⊢
      have HST := hid hst
      clear hst
      dsimp only at hh hol ⊢
      have HO := hid hol
      have G := hid hh
      clear hh hol HWS
      cases dn with
      | true =>
        go_wp2_with fail
        all_goals
          go_ret
          refine ⟨_, rfl, ?_⟩
          rw [HRS.out, ← HST.out]
          exact G.out.pull1.drop0.pull1.drop0
      | false =>
        go_wp2_with (at_builtin; refine wpl_file rfl _ _ rfl _ out rfl (G.out.alloc _) _ _ ⟨nm, fA, fn, fc, fz⟩ rfl (World.news_of_block (heap_alloc_new _ _)) (by have := HO.out; omega) ?c1)
        case c1 =>
          intro A' c' w' g
          have G2 := hid g
          clear g G
          go_wp2_with fail
          go_ret
          refine ⟨_, rfl, ?_⟩
          rw [HRS.out, ← HST.out]
          exact G2.out.pull1.drop0.pull1.drop0
end Go.Proofs.YtdbhccehbjhbpaaGreatDoor

/- the reference, disk: does, at a write behind a file's end. (Printed by gen_Y8.py.) -/
namespace Go.Proofs.YtdbhccehbjhbpaaGreatDoor
open Go.RowKit

/-- a slice of bytes that lies in a bag, or nothing. -/
def inBag (ps : List (Value × List UInt8)) (A : Option Addr) (len c : Nat) : Prop := ∃ b, (Value.slice A len c, b) ∈ ps ∧ b.length = len
theorem Held.bag_rd {w0 w : World} {B : List Res} {ps : List (Value × List UInt8)} (h : Held w0 w (rBig bytesLoc ps :: B)) {q : Value × List UInt8} (hq : q ∈ ps) : Rd (fun _ => True) w q.1 (bytesV q.2) := by
  obtain ⟨l1, l2, hs⟩ := List.append_of_mem hq
  rw [hs] at h
  have h3 := Held.big_uncons (l1 := [_]) bytesLoc (Held.big_split (l1 := []) bytesLoc h)
  exact Held.bytes (l1 := [_]) h3
def lenOf (fs : List RF) (name : List UInt8) : Nat := match fs.find? fun f => f.name == name with
  | some f => f.len
  | none => 0
theorem find_none {fs : List RF} {name : List UInt8} (h : ∀ f ∈ fs, f.name ≠ name) : fs.find? (fun f => f.name == name) = none := by
  rw [List.find?_eq_none]
  intro f hf
  simp [h f hf]
theorem find_some {fs : List RF} {name : List UInt8} {i : Nat} (hi : i < fs.length) (he : fs[i].name = name) (hne : ∀ j (hj : j < fs.length), j < i → fs[j].name ≠ name) : fs.find? (fun f => f.name == name) = some fs[i] := by
  rw [List.find?_eq_some_iff_getElem]
  refine ⟨by simp [he], i, hi, rfl, fun j hj => ?_⟩
  simp [hne j (by omega) hj]
theorem lenOf_none {fs : List RF} {name : List UInt8} (h : ∀ f ∈ fs, f.name ≠ name) : lenOf fs name = 0 := by unfold lenOf; rw [find_none h]
theorem lenOf_some {fs : List RF} {name : List UInt8} {i : Nat} (hi : i < fs.length) (he : fs[i].name = name) (hne : ∀ j (hj : j < fs.length), j < i → fs[j].name ≠ name) : lenOf fs name = fs[i].len := by unfold lenOf; rw [find_some hi he hne]

/-- an act as it is handed on. -/
def actV (name : List UInt8) (at_ : Nat) (A : Option Addr) (len c : Nat) (sure : Bool) : Value := .agg #[.int .i64 0, .string ⟨name.toArray⟩, .int .i64 at_, .slice A len c, .bool sure]

set_option maxRecDepth 100000 in
set_option maxHeartbeats 4000000 in
theorem rdoes_held {w0 w : World} {B : List Res} {u : Value} {fs : List RF} {ps : List (Value × List UInt8)} (h : Held w0 w (rFl u fs :: rBig bytesLoc ps :: B)) (hl : fs.length ≤ 10000) (hin : ∀ f ∈ fs, inBag ps f.A f.len f.c) (name : List UInt8) (at_ : Nat) (A : Option Addr) (len c : Nat) (hA : inBag ps A len c) (sure : Bool) (hat : at_ = lenOf fs name) (hmx : at_ + len ≤ 100000000) :
    Calls Tryz.prog 183 #[u, actV name at_ A len c sure] w fun e w' => ∃ v' A' c' ps', e = .returned v' ∧ inBag ps' A' (at_ + len) c' ∧ (∀ q ∈ ps, q ∈ ps') ∧ Held w0 w' (rFl v' (fput fs ⟨name, A', at_ + len, c', 0⟩) :: rBig bytesLoc ps' :: B) := by
  obtain ⟨fA, fc, rfl, hfc, hfm⟩ := h.fl_form
  have h1 := (h.block 201 #[.int .i64 0, .string ⟨name.toArray⟩, .int .i64 at_, .slice A len c, .bool sure]).pull1
  have HF := hid (rfind_any _ _ fs (Held.rows_rd h1) name)
  have HH := hid h1
  have HIN := hid hin
  obtain ⟨bA, hbA, hbl⟩ := hA
  have HBA := hid (And.intro hbA hbl)
  have HAT := hid hat
  obtain ⟨fl, hfl⟩ : ∃ fl, fl = fs.length := ⟨_, rfl⟩
  have HFL := hid hfl
  rw [← hfl] at hfc hl HF HH ⊢
  unfold sv at HF
  unfold actV
  clear h h1 hin hbA hbl hat hfl
  go_enter Tryz.func183, Tryz.ntmps183
  go_wp2_with fail
  refine HF.out.mono ?_
  rintro e w1 ⟨z, hz, rfl, hw⟩
  have HZ := hid hz
  rw [← hw] at HH
  clear hz HF hw
  generalize hab : w.heap.size = ab at *
  have x0 : w1.cell? ⟨ab, 0, none⟩ = some (.int .i64 0) := HH.out.pull1.blk0.cell rfl
  have x1 : w1.cell? ⟨ab, 1, none⟩ = some (.string ⟨name.toArray⟩) := HH.out.pull1.blk0.cell rfl
  have x2 : w1.cell? ⟨ab, 2, none⟩ = some (.int .i64 at_) := HH.out.pull1.blk0.cell rfl
  have x3 : w1.cell? ⟨ab, 3, none⟩ = some (.slice A len c) := HH.out.pull1.blk0.cell rfl
  rcases HZ.out with ⟨i, hi, rfl, hie, hine⟩ | ⟨rfl, hno⟩
  · have hil : i < fl := by rw [HFL.out]; exact hi
    obtain ⟨bb, off, e1, d0, d1, d2⟩ := (Held.rows_rd HH.out).rf hi
    subst e1
    obtain ⟨bs, hbs, hbsl⟩ := HIN.out _ (List.getElem_mem hi)
    have hlo := HAT.out.trans (lenOf_some hi hie hine)
    have HBS := hid (And.intro hbs hbsl)
    generalize fs[i] = f at *
    obtain ⟨fn, gA, gl, gc, gz⟩ := f
    dsimp only at d0 d1 d2 hlo HBS hbs hbsl
    subst hlo
    have hi0 : (0 : Int) ≤ (i : Int) := by omega
    have hi1 : (i : Int) < (fl : Int) := by omega
    have hneg : ¬ ((i : Int) < 0) := by omega
    obtain ⟨L, hL⟩ : ∃ L, L = at_ + len := ⟨_, rfl⟩
    have HLL := hid hL
    have hLi : (at_ : Int) + (len : Int) = (L : Int) := by omega
    have hmax : max (at_ : Int) (L : Int) = (L : Int) := by omega
    have HN := hid (show Held w0 w1 (rBytes (.slice none 0 0) [] :: _) from (HH.out.pull1.pull1).nil_own 5)
    clear hbs hbsl hie hine HZ hL
    go_wp2_with fail
    go_loopw [7, 9, 55] (fun out xv iv wr => ∃ (k : Nat) (o : List UInt8), k ≤ L ∧ iv = .int .i64 k ∧ o.length = k ∧ Held w0 wr (rBytes out o :: rFl (.slice (some ⟨bb, off, none⟩) fl fc) fs :: rBlk ab 201 #[.int .i64 0, .string ⟨name.toArray⟩, .int .i64 at_, .slice A len c, .bool sure] :: rBig bytesLoc ps :: B)) (fun _ _ iv _ => L - (intOf iv).toNat)
    case atStart => exact ⟨0, [], Nat.zero_le _, rfl, rfl, HN.out⟩
    case round =>
      clear HN HH x0 x1 x2 x3
      obtain ⟨k, o, hk, rfl, hol, hh⟩ := hrel
      obtain ⟨oA, oc, rfl, -, -⟩ := Held.form (l1 := []) hh
      have HOL := hid hol
      clear hol
      have y1 : wr.cell? ⟨ab, 1, none⟩ = some (.string ⟨name.toArray⟩) := hh.pull2.blk0.cell rfl
      have y2 : wr.cell? ⟨ab, 2, none⟩ = some (.int .i64 at_) := hh.pull2.blk0.cell rfl
      have y3 : wr.cell? ⟨ab, 3, none⟩ = some (.slice A len c) := hh.pull2.blk0.cell rfl
      have G := hid hh
      have hk0 : (0 : Int) ≤ (k : Int) := by omega
      by_cases hlt : k < L
      · have hltn : (k : Int) < (L : Int) := by omega
        by_cases hka : k < at_
        · obtain ⟨rb, ro, re, -, rcell⟩ := rd_at (Held.bag_rd hh.pull3 HBS.out.1) (k := k) (by have := HBS.out.2; show k < bs.length; omega)
          subst re
          have hkb : k < bs.length := by have := HBS.out.2; omega
          have hx := rcell k hkb
          generalize bs[k] = x at *
          have hka1 : (k : Int) < (at_ : Int) := by omega
          have hka2 : ¬ ((at_ : Int) ≤ (k : Int)) := by omega
          clear rcell hh
          go_wp2_with (at_builtin; refine wpl_app rfl _ _ rfl _ o rfl (G.out.lit1 x rfl rfl).pull1 (fun _ => True) _ [x] rfl (Held.bytes (l1 := []) (G.out.lit1 x rfl rfl)) (by have := HOL.out; simp; omega) ?c1)
          case c1 =>
            intro A' c' w' g
            have G2 := hid g.pull1.drop0
            have HO2 := hid (show (o ++ [x]).length = o.length + [x].length by rw [List.length_append])
            have HO3 := hid (show (o ++ [x]).length = k + 1 by rw [List.length_append, HOL.out]; rfl)
            clear g G
            go_wp2_with fail
            exact ⟨⟨k + 1, o ++ [x], by omega, by congr 1, HO3.out, G2.out⟩, by show L - ((k : Int) + 1).toNat < L - (k : Int).toNat; omega⟩
        · obtain ⟨rb, ro, re, -, rcell⟩ := rd_at (Held.bag_rd hh.pull3 HBA.out.1) (k := k - at_) (by have := HBA.out.2; have := HLL.out; show k - at_ < bA.length; omega)
          subst re
          have hkb : k - at_ < bA.length := by have := HBA.out.2; have := HLL.out; omega
          have hx := rcell (k - at_) hkb
          generalize bA[k - at_] = x at *
          have hka1 : ¬ ((k : Int) < (at_ : Int)) := by omega
          have hka2 : (at_ : Int) ≤ (k : Int) := by omega
          obtain ⟨j, hj⟩ : ∃ j, j = k - at_ := ⟨_, rfl⟩
          have hkj : (k : Int) - (at_ : Int) = (j : Int) := by omega
          have hj0 : (0 : Int) ≤ (j : Int) := by omega
          have hj1 : (j : Int) < (len : Int) := by have := HLL.out; omega
          rw [← hj] at hx
          clear rcell hh hj
          go_wp2_with (at_builtin; refine wpl_app rfl _ _ rfl _ o rfl (G.out.lit1 x rfl rfl).pull1 (fun _ => True) _ [x] rfl (Held.bytes (l1 := []) (G.out.lit1 x rfl rfl)) (by have := HOL.out; simp; omega) ?c1)
          case c1 =>
            intro A' c' w' g
            have G2 := hid g.pull1.drop0
            have HO2 := hid (show (o ++ [x]).length = o.length + [x].length by rw [List.length_append])
            have HO3 := hid (show (o ++ [x]).length = k + 1 by rw [List.length_append, HOL.out]; rfl)
            clear g G
            go_wp2_with fail
            exact ⟨⟨k + 1, o ++ [x], by omega, by congr 1, HO3.out, G2.out⟩, by show L - ((k : Int) + 1).toNat < L - (k : Int).toNat; omega⟩
      · have hltn : ¬ ((k : Int) < (L : Int)) := by omega
        have HKL := hid (show k = L by omega)
        have HP := hid (show Calls Tryz.prog 186 #[.slice (some ⟨bb, off, none⟩) fl fc, .agg #[.string ⟨name.toArray⟩, .slice oA o.length oc, .int .i64 0]] wr _ from rput_held G.out.pull1 ⟨name, oA, o.length, oc, 0⟩ (by rw [← HFL.out]; exact hl))
        clear hh y1 y2 y3 hltn
        have y1 : wr.cell? ⟨ab, 1, none⟩ = some (.string ⟨name.toArray⟩) := G.out.pull2.blk0.cell rfl
        have hltn : ¬ ((k : Int) < (L : Int)) := by omega
        clear G
        go_wp2_with fail
        refine HP.out.mono ?_
        rintro e w2 ⟨v', rfl, g2⟩
        have G2 := hid g2
        clear g2 HP
        go_wp2_with fail
        go_ret
        have hoL : o.length = L := by rw [HOL.out, HKL.out]
        have g3 := Held.big_snoc (A := [_]) bytesLoc (x := (Value.slice oA o.length oc, o)) (G2.out.pull1.drop0.pull2.drop0.pull2.pull1)
        rw [hoL] at g3
        rw [← HLL.out]
        exact ⟨_, oA, oc, _, rfl, ⟨o, by simp, hoL⟩, fun q hq => List.mem_append_left _ hq, g3⟩
  · have hat0 : at_ = 0 := HAT.out.trans (lenOf_none hno)
    obtain ⟨L, hL⟩ : ∃ L, L = at_ + len := ⟨_, rfl⟩
    have HLL := hid hL
    have hLi : (at_ : Int) + (len : Int) = (L : Int) := by omega
    have hmax : max (0 : Int) (L : Int) = (L : Int) := by omega
    have HN := hid (show Held w0 w1 (rBytes (.slice none 0 0) [] :: _) from (HH.out.pull1.pull1).nil_own 5)
    have HAT0 := hid hat0
    clear hno HZ hL hat0
    go_wp2_with fail
    go_loopw [7, 9, 55] (fun out xv iv wr => ∃ (k : Nat) (o : List UInt8), k ≤ L ∧ iv = .int .i64 k ∧ o.length = k ∧ Held w0 wr (rBytes out o :: rFl (.slice fA fl fc) fs :: rBlk ab 201 #[.int .i64 0, .string ⟨name.toArray⟩, .int .i64 at_, .slice A len c, .bool sure] :: rBig bytesLoc ps :: B)) (fun _ _ iv _ => L - (intOf iv).toNat)
    case atStart => exact ⟨0, [], Nat.zero_le _, rfl, rfl, HN.out⟩
    case round =>
      clear HN HH x0 x1 x2 x3
      obtain ⟨k, o, hk, rfl, hol, hh⟩ := hrel
      obtain ⟨oA, oc, rfl, -, -⟩ := Held.form (l1 := []) hh
      have HOL := hid hol
      clear hol
      have y1 : wr.cell? ⟨ab, 1, none⟩ = some (.string ⟨name.toArray⟩) := hh.pull2.blk0.cell rfl
      have y2 : wr.cell? ⟨ab, 2, none⟩ = some (.int .i64 at_) := hh.pull2.blk0.cell rfl
      have y3 : wr.cell? ⟨ab, 3, none⟩ = some (.slice A len c) := hh.pull2.blk0.cell rfl
      have G := hid hh
      have hk0 : (0 : Int) ≤ (k : Int) := by omega
      by_cases hlt : k < L
      · have hltn : (k : Int) < (L : Int) := by omega
        have hat0 := HAT0.out
        obtain ⟨rb, ro, re, -, rcell⟩ := rd_at (Held.bag_rd hh.pull3 HBA.out.1) (k := k - at_) (by have := HBA.out.2; have := HLL.out; show k - at_ < bA.length; omega)
        subst re
        have hkb : k - at_ < bA.length := by have := HBA.out.2; have := HLL.out; omega
        have hx := rcell (k - at_) hkb
        generalize bA[k - at_] = x at *
        have hka1 : ¬ ((k : Int) < 0) := by omega
        have hka2 : (at_ : Int) ≤ (k : Int) := by omega
        obtain ⟨j, hj⟩ : ∃ j, j = k - at_ := ⟨_, rfl⟩
        have hkj : (k : Int) - (at_ : Int) = (j : Int) := by omega
        have hj0 : (0 : Int) ≤ (j : Int) := by omega
        have hj1 : (j : Int) < (len : Int) := by have := HLL.out; omega
        rw [← hj] at hx
        clear rcell hh hj hat0
        go_wp2_with (at_builtin; refine wpl_app rfl _ _ rfl _ o rfl (G.out.lit1 x rfl rfl).pull1 (fun _ => True) _ [x] rfl (Held.bytes (l1 := []) (G.out.lit1 x rfl rfl)) (by have := HOL.out; simp; omega) ?c1)
        case c1 =>
          intro A' c' w' g
          have G2 := hid g.pull1.drop0
          have HO2 := hid (show (o ++ [x]).length = o.length + [x].length by rw [List.length_append])
          have HO3 := hid (show (o ++ [x]).length = k + 1 by rw [List.length_append, HOL.out]; rfl)
          clear g G
          go_wp2_with fail
          exact ⟨⟨k + 1, o ++ [x], by omega, by congr 1, HO3.out, G2.out⟩, by show L - ((k : Int) + 1).toNat < L - (k : Int).toNat; omega⟩
      · have hltn : ¬ ((k : Int) < (L : Int)) := by omega
        have HKL := hid (show k = L by omega)
        have HP := hid (show Calls Tryz.prog 186 #[.slice fA fl fc, .agg #[.string ⟨name.toArray⟩, .slice oA o.length oc, .int .i64 0]] wr _ from rput_held G.out.pull1 ⟨name, oA, o.length, oc, 0⟩ (by rw [← HFL.out]; exact hl))
        clear hh y1 y2 y3 hltn
        have y1 : wr.cell? ⟨ab, 1, none⟩ = some (.string ⟨name.toArray⟩) := G.out.pull2.blk0.cell rfl
        have hltn : ¬ ((k : Int) < (L : Int)) := by omega
        clear G
        go_wp2_with fail
        refine HP.out.mono ?_
        rintro e w2 ⟨v', rfl, g2⟩
        have G2 := hid g2
        clear g2 HP
        go_wp2_with fail
        go_ret
        have hoL : o.length = L := by rw [HOL.out, HKL.out]
        have g3 := Held.big_snoc (A := [_]) bytesLoc (x := (Value.slice oA o.length oc, o)) (G2.out.pull1.drop0.pull2.drop0.pull2.pull1)
        rw [hoL] at g3
        rw [← HLL.out]
        exact ⟨_, oA, oc, _, rfl, ⟨o, by simp, hoL⟩, fun q hq => List.mem_append_left _ hq, g3⟩
end Go.Proofs.YtdbhccehbjhbpaaGreatDoor

/- the reference, disk: what put does to the files' lengths; Files. -/
namespace Go.Proofs.YtdbhccehbjhbpaaGreatDoor
open Go.RowKit

theorem insS_form (f : RF) : ∀ (l done : List RF) (s : List RF × Bool), ((s.2 = false ∧ s.1 = done) ∨ (s.2 = true ∧ ∃ pre post, done = pre ++ post ∧ s.1 = pre ++ f :: post)) →
    (((l.foldl (insStep f) s).2 = false ∧ (l.foldl (insStep f) s).1 = done ++ l) ∨ ((l.foldl (insStep f) s).2 = true ∧ ∃ pre post, done ++ l = pre ++ post ∧ (l.foldl (insStep f) s).1 = pre ++ f :: post)) := by
  intro l
  induction l with
  | nil => intro done s h; simpa using h
  | cons x l ih =>
    intro done s h
    rw [List.foldl_cons, show done ++ x :: l = (done ++ [x]) ++ l by simp]
    refine ih (done ++ [x]) (insStep f s x) ?_
    unfold insStep
    rcases h with ⟨h1, h2⟩ | ⟨h1, pre, post, h2, h3⟩
    · rw [h1, h2]
      by_cases hb : Op.bytesLess f.name x.name = true
      · rw [if_pos (by simp [hb])]
        exact .inr ⟨rfl, done, [x], rfl, by simp⟩
      · rw [if_neg (by simp [hb])]
        exact .inl ⟨rfl, rfl⟩
    · rw [if_neg (by simp [h1]), h1]
      exact .inr ⟨rfl, pre, post ++ [x], by rw [h2]; simp, by rw [h3]; simp⟩
theorem fput_form (fs : List RF) (f : RF) : ∃ pre post, fwo fs f.name = pre ++ post ∧ fput fs f = pre ++ f :: post := by
  have h := insS_form f (fwo fs f.name) [] ([], false) (.inl ⟨rfl, rfl⟩)
  rw [List.nil_append] at h
  unfold fput insS
  rcases h with ⟨h1, h2⟩ | ⟨h1, pre, post, h2, h3⟩
  · rw [if_neg (by rw [h1]; simp), h2]
    exact ⟨_, [], by simp, rfl⟩
  · rw [if_pos h1, h3]
    exact ⟨pre, post, h2, rfl⟩
theorem fput_len (fs : List RF) (f : RF) : (fput fs f).length ≤ fs.length + 1 := by
  obtain ⟨pre, post, h1, h2⟩ := fput_form fs f
  have h3 := List.length_filter_le (fun g : RF => g.name != f.name) fs
  have h4 : (fwo fs f.name).length = pre.length + post.length := by rw [h1, List.length_append]
  rw [h2]
  simp only [List.length_append, List.length_cons]
  unfold fwo at h4
  omega
theorem fput_mem {fs : List RF} {f g : RF} (h : g ∈ fput fs f) : g = f ∨ g ∈ fs := by
  obtain ⟨pre, post, h1, h2⟩ := fput_form fs f
  rw [h2] at h
  have h3 : g = f ∨ g ∈ pre ++ post := by
    rcases List.mem_append.1 h with h | h
    · exact .inr (List.mem_append_left _ h)
    · rcases List.mem_cons.1 h with h | h
      · exact .inl h
      · exact .inr (List.mem_append_right _ h)
  rcases h3 with h3 | h3
  · exact .inl h3
  · rw [← h1] at h3
    exact .inr (List.mem_filter.1 h3).1
theorem find_fwo {fs : List RF} {name n : List UInt8} (h : n ≠ name) : (fwo fs name).find? (fun g => g.name == n) = fs.find? (fun g => g.name == n) := by
  unfold fwo
  induction fs with
  | nil => rfl
  | cons x l ih =>
    by_cases hx : x.name = name
    · rw [List.filter_cons_of_neg (by simp [hx]), ih, List.find?_cons_of_neg (by simp [hx, Ne.symm h])]
    · rw [List.filter_cons_of_pos (by simp [hx])]
      by_cases hn : x.name = n
      · rw [List.find?_cons_of_pos (by simp [hn]), List.find?_cons_of_pos (by simp [hn])]
      · rw [List.find?_cons_of_neg (by simp [hn]), List.find?_cons_of_neg (by simp [hn]), ih]
theorem find_fput (fs : List RF) (f : RF) (n : List UInt8) : (fput fs f).find? (fun g => g.name == n) = if n = f.name then some f else fs.find? (fun g => g.name == n) := by
  obtain ⟨pre, post, h1, h2⟩ := fput_form fs f
  rw [h2]
  have hno : ∀ g ∈ pre ++ post, g.name ≠ f.name := by
    intro g hg
    rw [← h1] at hg
    have := (List.mem_filter.1 hg).2
    simpa using this
  by_cases hn : n = f.name
  · rw [if_pos hn, List.find?_append, find_none (fun g hg => by rw [hn]; exact hno g (List.mem_append_left _ hg)), Option.none_or, List.find?_cons_of_pos (by simp [hn])]
  · have h3 := find_fwo (fs := fs) hn
    rw [h1, List.find?_append] at h3
    rw [if_neg hn, ← h3, List.find?_append, List.find?_cons_of_neg (by simp; exact fun e => hn e.symm)]
theorem lenOf_fput (fs : List RF) (f : RF) (n : List UInt8) : lenOf (fput fs f) n = if n = f.name then f.len else lenOf fs n := by
  unfold lenOf
  rw [find_fput]
  by_cases hn : n = f.name
  · rw [if_pos hn, if_pos hn]
  · rw [if_neg hn, if_neg hn]

/-! ### acts -/
structure RA where
  name : List UInt8
  at_ : Nat
  A : Option Addr
  len : Nat
  c : Nat
  sure : Bool
def arow (a : RA) : List Value := [.int .i64 0, sv a.name, .int .i64 a.at_, .slice a.A a.len a.c, .bool a.sure]
def rAl (u : Value) (al : List RA) : Res := rRows 5 201 u (al.map arow)
/-- how many bytes acts wrote to a name. -/
def total (al : List RA) (n : List UInt8) : Nat := ((al.filter fun a => a.name == n).map (·.len)).sum
theorem total_snoc (al : List RA) (a : RA) (n : List UInt8) : total (al ++ [a]) n = total al n + if a.name = n then a.len else 0 := by
  unfold total
  rw [List.filter_append, List.map_append, List.sum_append]
  by_cases h : a.name = n
  · simp [h]
  · simp [h]
/-- each act writes where its file ends; all are short. -/
structure ActsOk (ps : List (Value × List UInt8)) (al : List RA) : Prop where
  at_ : ∀ k (h : k < al.length), al[k].at_ = total (al.take k) al[k].name
  bag : ∀ a ∈ al, inBag ps a.A a.len a.c
  few : al.length ≤ 1000
  small : ∀ n, total al n ≤ 50000000
/-- files as acts made them. -/
structure FilesOf (ps : List (Value × List UInt8)) (al : List RA) (fs : List RF) : Prop where
  len : ∀ n, lenOf fs n = total al n
  few : fs.length ≤ al.length
  bag : ∀ f ∈ fs, inBag ps f.A f.len f.c
end Go.Proofs.YtdbhccehbjhbpaaGreatDoor

/- the reference, disk: Files. -/
namespace Go.Proofs.YtdbhccehbjhbpaaGreatDoor
open Go.RowKit

theorem inBag.up {ps ps' : List (Value × List UInt8)} (hs : ∀ q ∈ ps, q ∈ ps') {A : Option Addr} {len c : Nat} (h : inBag ps A len c) : inBag ps' A len c := by
  obtain ⟨b, h1, h2⟩ := h
  exact ⟨b, hs _ h1, h2⟩
theorem ActsOk.up {ps ps' : List (Value × List UInt8)} (hs : ∀ q ∈ ps, q ∈ ps') {al : List RA} (h : ActsOk ps al) : ActsOk ps' al := ⟨h.at_, fun a ha => (h.bag a ha).up hs, h.few, h.small⟩
theorem FilesOf.up {ps ps' : List (Value × List UInt8)} (hs : ∀ q ∈ ps, q ∈ ps') {al : List RA} {fs : List RF} (h : FilesOf ps al fs) : FilesOf ps' al fs := ⟨h.len, h.few, fun f hf => (h.bag f hf).up hs⟩
structure RAAt (w : World) (b off : Nat) (a : RA) : Prop where
  c0 : w.cell? ⟨b, off, none⟩ = some (.int .i64 0)
  c1 : w.cell? ⟨b, off + 1, none⟩ = some (.string ⟨a.name.toArray⟩)
  c2 : w.cell? ⟨b, off + 2, none⟩ = some (.int .i64 a.at_)
  c3 : w.cell? ⟨b, off + 3, none⟩ = some (.slice a.A a.len a.c)
  c4 : w.cell? ⟨b, off + 4, none⟩ = some (.bool a.sure)
theorem RdRows.ra {S : Nat → Prop} {w : World} {A : Option Addr} {n c : Nat} {al : List RA} (h : RdRows 5 S w (.slice A n c) (al.map arow)) {k : Nat} (hk : k < al.length) : ∃ b off, A = some ⟨b, off, none⟩ ∧ RAAt w b (off + k * 5) al[k] := by
  obtain ⟨b, off, e, hc⟩ := h.cells (i := k) (r := arow al[k]) (by rw [List.getElem?_map, List.getElem?_eq_getElem hk]; rfl)
  exact ⟨b, off, e, hc 0 _ rfl, hc 1 _ rfl, hc 2 _ rfl, hc 3 _ rfl, hc 4 _ rfl⟩
theorem Held.al_form {w0 w : World} {B : List Res} {u : Value} {al : List RA} (h : Held w0 w (rAl u al :: B)) : ∃ A c, u = .slice A al.length c ∧ al.length ≤ c ∧ c ≤ 9223372036854775807 := by
  obtain ⟨-, A, c, hv, h1, h2, -⟩ := Held.rows_rd h
  rw [List.length_map] at hv h1
  exact ⟨A, c, hv, h1, h2⟩
theorem total_le (al : List RA) (k : Nat) (n : List UInt8) : total (al.take k) n ≤ total al n := by
  have h : total (al.take k ++ al.drop k) n = total (al.take k) n + total (al.drop k) n := by unfold total; rw [List.filter_append, List.map_append, List.sum_append]
  rw [List.take_append_drop] at h
  omega
def rdCells (sp : Nat) (vL vH : Value) : Array Value := #[.int .i64 sp, vL, vH]

set_option maxRecDepth 100000 in
set_option maxHeartbeats 2000000 in
theorem rfiles_held {w0 w : World} {B : List Res} {y sp : Nat} {vL vH : Value} {al : List RA} {ps : List (Value × List UInt8)} (h : Held w0 w (rBlk y 97 (rdCells sp vL vH) :: rAl vL al :: rBig bytesLoc ps :: B)) (ha : ActsOk ps al) :
    Calls Tryz.prog 133 #[.pointer (some ⟨y, 0, none⟩), .bool false] w fun e w' => ∃ v' fs ps', e = .returned v' ∧ FilesOf ps' al fs ∧ (∀ q ∈ ps, q ∈ ps') ∧ Held w0 w' (rFl v' fs :: rBlk y 97 (rdCells sp vL vH) :: rAl vL al :: rBig bytesLoc ps' :: B) := by
  obtain ⟨A, c, rfl, hc, hm⟩ := h.pull1.al_form
  have c1 : w.cell? ⟨y, 1, none⟩ = some (.slice A al.length c) := h.blk0.cell rfl
  have HH := hid (show Held w0 w (rFl (.slice none 0 0) [] :: rBlk y 97 (rdCells sp (.slice A al.length c) vH) :: rAl (.slice A al.length c) al :: rBig bytesLoc ps :: B) from h.rows_nil 3 196)
  have HA := hid ha
  have hfew := ha.few
  obtain ⟨n, hn⟩ : ∃ n, n = al.length := ⟨_, rfl⟩
  have HN := hid hn
  rw [← hn] at hc c1 HH hfew ⊢
  clear h ha hn
  go_enter Tryz.func133, Tryz.ntmps133
  go_wp2_with fail
  go_loopw [5, 13] (fun lv iv wr => ∃ (k : Nat) (fs : List RF) (ps' : List (Value × List UInt8)), k ≤ n ∧ iv = .int .i64 k ∧ FilesOf ps' (al.take k) fs ∧ (∀ q ∈ ps, q ∈ ps') ∧ Held w0 wr (rFl lv fs :: rBlk y 97 (rdCells sp (.slice A n c) vH) :: rAl (.slice A n c) al :: rBig bytesLoc ps' :: B)) (fun _ iv _ => n - (intOf iv).toNat)
  case atStart => exact ⟨0, [], ps, Nat.zero_le _, rfl, ⟨fun _ => rfl, Nat.le_refl _, fun f hf => by cases hf⟩, fun q h => h, HH.out⟩
  case round =>
    clear HH c1
    obtain ⟨k, fs, ps', hk, rfl, hfo, hsub, hh⟩ := hrel
    obtain ⟨lA, lc, rfl, -, -⟩ := hh.fl_form
    have HSUB := hid hsub
    have HFO := hid hfo
    clear hsub hfo
    by_cases hlt : k < n
    · have hlk : k < al.length := by rw [← HN.out]; exact hlt
      obtain ⟨b, off, rfl, d0, d1, d2, d3, d4⟩ := (Held.rows_rd hh.pull2).ra hlk
      have hat := HA.out.at_ k hlk
      have hbag := (HA.out.bag _ (List.getElem_mem hlk)).up HSUB.out
      have hlf : fs.length ≤ 10000 := by have := HFO.out.few; rw [List.length_take] at this; omega
      have hat2 : al[k].at_ = lenOf fs al[k].name := by rw [hat, HFO.out.len]
      have htk : al.take (k + 1) = al.take k ++ [al[k]] := List.take_succ_eq_append_getElem hlk
      have hsm : al[k].at_ + al[k].len ≤ 100000000 := by
        have h1 := HA.out.small al[k].name
        have h3 := total_le al (k + 1) al[k].name
        have h4 := total_snoc (al.take k) al[k] al[k].name
        rw [← htk, if_pos rfl] at h4
        omega
      have HTK := hid htk
      have HAT := hid hat
      generalize al[k] = a at *
      obtain ⟨an, aat, aA, alen, ac, asure⟩ := a
      dsimp only at d0 d1 d2 d3 d4 hat2 hsm hbag HAT
      have HD := hid (fun w1 (m : Mod (fun _ => False) wr w1) => rdoes_held (B := rBlk y 97 (rdCells sp (.slice (some ⟨b, off, none⟩) n c) vH) :: rAl (.slice (some ⟨b, off, none⟩) n c) al :: B) ((hh.step m).pull3.pull1) hlf HFO.out.bag an aat aA alen ac hbag asure hat2 hsm)
      have hk0 : (0 : Int) ≤ (k : Int) := by omega
      have hltn : (k : Int) < (n : Int) := by omega
      have HM := hid (show Mod (fun _ => False) wr (wr.alloc (.cells #[.int .i64 0, .string ⟨an.toArray⟩, .int .i64 aat, .slice aA alen ac, .bool asure] 201)) from (Mod.refl _ _).alloc _)
      unfold actV at HD
      clear hat hbag hat2 htk hsm hh
      go_wp2_with fail
      refine (HD.out _ HM.out).mono ?_
      rintro e w2 ⟨v', A', c', ps2, rfl, hb2, hs2, g2⟩
      have G2 := hid g2
      have HB2 := hid (And.intro hb2 hs2)
      clear g2 hb2 hs2 HD
      go_wp2_with fail
      refine ⟨⟨k + 1, _, ps2, by omega, by congr 1, ?_, fun q hq => HB2.out.2 q (HSUB.out q hq), G2.out.pull1.pull3.pull3.pull3⟩, by show n - ((k : Int) + 1).toNat < n - (k : Int).toNat; omega⟩
      rw [HTK.out]
      refine ⟨fun n' => ?_, ?_, fun f hf => ?_⟩
      · rw [lenOf_fput, total_snoc, HFO.out.len]
        by_cases he : n' = an
        · subst he
          rw [if_pos rfl, if_pos rfl, ← HAT.out]
        · rw [if_neg he, if_neg (fun e => he e.symm)]
          rfl
      · have h1 := fput_len fs ⟨an, A', aat + alen, c', 0⟩
        have h2 := HFO.out.few
        rw [List.length_append, List.length_singleton]
        omega
      · rcases fput_mem hf with rfl | hf
        · exact HB2.out.1
        · exact (HFO.out.bag f hf).up HB2.out.2
    · have hltn : ¬ ((k : Int) < (n : Int)) := by omega
      have hkn : k = n := by omega
      subst hkn
      have HFO2 := hid (show FilesOf ps' al fs by have := HFO.out; rwa [List.take_of_length_le (by rw [← HN.out]; exact Nat.le_refl _)] at this)
      have G := hid hh
      clear hh
      go_wp2_with fail
      go_ret
      first | exact ⟨_, fs, ps', rfl, HFO2.out, HSUB.out, G.out⟩ | exact ⟨_, rfl, fs, ps', HFO2.out, fun a b h => HSUB.out (a, b) h, G.out⟩
end Go.Proofs.YtdbhccehbjhbpaaGreatDoor

/- the reference, disk: name, look. -/
namespace Go.Proofs.YtdbhccehbjhbpaaGreatDoor
open Go.RowKit

set_option maxRecDepth 100000 in
theorem rmay_any (w : World) (s : List UInt8) (hm : Disk.may s = true) :
    Calls Tryz.prog 184 #[sv s] w fun e w' => e = .returned (.bool true) ∧ w' = w := by
  unfold Disk.may at hm
  rw [Bool.and_eq_true, Bool.and_eq_true, List.all_eq_true, decide_eq_true_iff, decide_eq_true_iff] at hm
  obtain ⟨hall, hl1, hl2⟩ := hm
  have HA := hid hall
  have hsz : (ByteArray.mk s.toArray).size = s.length := by simp [ByteArray.size]
  have hne : s ≠ [] := by rintro rfl; simp at hl1
  obtain ⟨n, hn⟩ : ∃ n, n = s.length := ⟨_, rfl⟩
  have HN := hid hn
  rw [← hn] at hl1 hl2 hsz
  clear hall hn
  unfold sv
  go_enter Tryz.func184, Tryz.ntmps184
  go_wp2_with fail
  go_loopw [7] (fun iv wr => ∃ k : Nat, k ≤ n ∧ iv = .int .i64 k ∧ wr = w) (fun iv _ => n - (intOf iv).toNat)
  case atStart => exact ⟨0, Nat.zero_le _, rfl, rfl⟩
  case round =>
    obtain ⟨k, hk, rfl, rfl⟩ := hrel
    by_cases hlt : k < n
    · have hlk : k < s.length := by rw [← HN.out]; exact hlt
      have hok := HA.out _ (List.getElem_mem hlk)
      have hb : k < (ByteArray.mk s.toArray).size := by rw [hsz]; exact hlt
      have hok3 : ((97 ≤ ((ByteArray.mk s.toArray)[k]'hb).toNat ∧ ((ByteArray.mk s.toArray)[k]'hb).toNat ≤ 122) ∨ (48 ≤ ((ByteArray.mk s.toArray)[k]'hb).toNat ∧ ((ByteArray.mk s.toArray)[k]'hb).toNat ≤ 57)) ∨ ((ByteArray.mk s.toArray)[k]'hb).toNat = 46 := by
        have he : (ByteArray.mk s.toArray)[k]'hb = s[k] := by
          show s.toArray[k] = s[k]
          simp
        rw [he]
        unfold Disk.okByte at hok
        rw [Bool.or_eq_true, Bool.or_eq_true, decide_eq_true_iff, decide_eq_true_iff, decide_eq_true_iff] at hok
        exact hok
      have HOK := hid hok3
      clear hok hok3
      have hltn : (k : Int) < (n : Int) := by omega
      have hk0 : (0 : Int) ≤ (k : Int) := by omega
      go_wp2_with fail
      all_goals first
        | (exfalso; have := HOK.out; simp only [bne_iff_ne, ne_eq] at *; omega)
        | exact ⟨⟨k + 1, by omega, by congr 1, by first | rfl | trivial⟩, by show n - ((k : Int) + 1).toNat < n - (k : Int).toNat; omega⟩
    · have hltn : ¬ ((k : Int) < (n : Int)) := by omega
      have he : s.isEmpty = false := by cases s with | nil => exact absurd rfl hne | cons _ _ => rfl
      have h24 : (n : Int) ≤ 24 := by omega
      go_wp2_with fail
      go_ret
      refine ⟨?_, rfl⟩
      first | rfl | (show Ending.returned (.bool _) = _; simp [he, h24])
end Go.Proofs.YtdbhccehbjhbpaaGreatDoor

/- the reference, disk: look, Used. -/
namespace Go.Proofs.YtdbhccehbjhbpaaGreatDoor
open Go.RowKit

set_option maxRecDepth 100000 in
set_option maxHeartbeats 1000000 in
theorem rlook_held {w0 w : World} {B : List Res} {y sp : Nat} {vL vH : Value} {al : List RA} {ps : List (Value × List UInt8)} (h : Held w0 w (rBlk y 97 (rdCells sp vL vH) :: rAl vL al :: rBig bytesLoc ps :: B)) (ha : ActsOk ps al) (s : List UInt8) (hm : Disk.may s = true) :
    Calls Tryz.prog 134 #[.pointer (some ⟨y, 0, none⟩), sv s] w fun e w' => ∃ (A : Option Addr) (len c : Nat) (z : Int) (ps' : List (Value × List UInt8)), e = .returned (.tuple #[.slice A len c, .int .i64 z]) ∧ len = total al s ∧ (z = 0 ∨ z = 20 ∧ len = 0) ∧ (∀ q ∈ ps, q ∈ ps') ∧ Held w0 w' (rBlk y 97 (rdCells sp vL vH) :: rAl vL al :: rBig bytesLoc ps' :: B) := by
  have HN := hid (fun w => rmay_any w s hm)
  have HF := hid (rfiles_held h ha)
  have HX := hid (fun w1 u (fs : List RF) (B1 : List Res) (g1 : Held w0 w1 (rFl u fs :: B1)) => rfind_any w1 u fs (Held.rows_rd g1) s)
  unfold sv at HN HX ⊢
  clear h ha hm
  go_enter Tryz.func134, Tryz.ntmps134
  go_wp2_with fail
  refine (HN.out _).mono ?_
  rintro e w1 ⟨rfl, rfl⟩
  go_wp2_with fail
  refine HF.out.mono ?_
  rintro e w2 ⟨v', fs, ps', rfl, hfo, hsub, g2⟩
  obtain ⟨A, c, rfl, hc, hm2⟩ := g2.fl_form
  have HXX := hid (HX.out _ _ _ _ g2)
  have HFO := hid (And.intro hfo hsub)
  have G2 := hid g2
  clear g2 HF HX HN hfo hsub
  go_wp2_with fail
  refine HXX.out.mono ?_
  rintro e w3 ⟨z, hz, rfl, rfl⟩
  have HZ := hid hz
  clear hz HXX
  rcases HZ.out with ⟨i, hi, rfl, hie, hine⟩ | ⟨rfl, hno⟩
  · obtain ⟨b, off, rfl, d0, d1, d2⟩ := (Held.rows_rd G2.out).rf hi
    have HL := hid (show fs[i].len = total al s by rw [← HFO.out.1.len s, lenOf_some hi hie hine])
    have hi1 : (i : Int) < (fs.length : Int) := by omega
    have hi0 : ¬ ((i : Int) < 0) := by omega
    generalize fs[i] = f at *
    obtain ⟨fn, fA, fl, fc, fz⟩ := f
    dsimp only at d0 d1 d2 HL
    clear hie hine HZ
    go_wp2_with fail
    go_ret2
    exact ⟨_, fl, fc, 0, ps', rfl, HL.out, .inl rfl, HFO.out.2, G2.out.drop0⟩
  · have HL := hid (show 0 = total al s by rw [← HFO.out.1.len s, lenOf_none hno])
    clear hno HZ
    go_wp2_with fail
    go_ret2
    exact ⟨_, 0, 0, 20, ps', rfl, HL.out, .inr ⟨rfl, rfl⟩, HFO.out.2, G2.out.drop0⟩

/-- what files hold, all together. -/
def heldSum (hs : List RF) : Nat := (hs.map (·.n)).sum
set_option maxRecDepth 100000 in
theorem rused_held {w0 w : World} {B : List Res} {y sp : Nat} {vL vH : Value} {hs : List RF} (h : Held w0 w (rBlk y 97 (rdCells sp vL vH) :: rFl vH hs :: B)) (hm : heldSum hs ≤ 100000000) :
    Calls Tryz.prog 146 #[.pointer (some ⟨y, 0, none⟩)] w fun e w' => e = .returned (.int .i64 (heldSum hs)) ∧ Held w0 w' (rBlk y 97 (rdCells sp vL vH) :: rFl vH hs :: B) := by
  obtain ⟨A, c, rfl, hc, hm2⟩ := h.pull1.fl_form
  have c2 : w.cell? ⟨y, 2, none⟩ = some (.slice A hs.length c) := h.blk0.cell rfl
  have HH := hid h
  obtain ⟨n, hn⟩ : ∃ n, n = hs.length := ⟨_, rfl⟩
  have HN := hid hn
  have HS := hid (fun k (hk : k < hs.length) => show heldSum (hs.take (k + 1)) = heldSum (hs.take k) + hs[k].n by
    unfold heldSum
    rw [List.take_succ_eq_append_getElem hk, List.map_append, List.sum_append]
    simp)
  have HT := hid (fun k => show heldSum (hs.take k) ≤ heldSum hs by
    have h1 : heldSum (hs.take k ++ hs.drop k) = heldSum (hs.take k) + heldSum (hs.drop k) := by unfold heldSum; rw [List.map_append, List.sum_append]
    rw [List.take_append_drop] at h1
    omega)
  rw [← hn] at hc c2 HH ⊢
  obtain ⟨sm, hsm⟩ : ∃ sm, sm = heldSum hs := ⟨_, rfl⟩
  have HSM := hid hsm
  rw [← hsm] at hm HT ⊢
  clear h hn hsm
  go_enter Tryz.func146, Tryz.ntmps146
  go_wp2_with fail
  go_loopw [3, 11] (fun zv iv wr => ∃ k z : Nat, k ≤ n ∧ iv = .int .i64 k ∧ zv = .int .i64 z ∧ z = heldSum (hs.take k) ∧ Held w0 wr (rBlk y 97 (rdCells sp vL (.slice A n c)) :: rFl (.slice A n c) hs :: B)) (fun _ iv _ => n - (intOf iv).toNat)
  case atStart => exact ⟨0, 0, Nat.zero_le _, rfl, rfl, rfl, HH.out⟩
  case round =>
    clear HH c2
    obtain ⟨k, z, hk, rfl, rfl, hz, hh⟩ := hrel
    have hzl : z ≤ 100000000 := by have := HT.out k; omega
    have HZ := hid hz
    clear hz
    by_cases hlt : k < n
    · have hlk : k < hs.length := by rw [← HN.out]; exact hlt
      obtain ⟨b, off, rfl, d0, d1, d2⟩ := (Held.rows_rd hh.pull1).rf hlk
      have hst := HS.out k hlk
      have hnl : z + hs[k].n ≤ 100000000 := by have := HT.out (k + 1); have := HZ.out; omega
      have HZ2 := hid (show z + hs[k].n = heldSum (hs.take (k + 1)) by rw [hst, ← HZ.out])
      generalize hs[k] = f at *
      obtain ⟨fn, fA, fl, fc, fz⟩ := f
      dsimp only at d0 d1 d2 hnl HZ2
      have G := hid (hh.alloc (.cells #[.string ⟨fn.toArray⟩, .slice fA fl fc, .int .i64 fz] 196))
      have hk0 : (0 : Int) ≤ (k : Int) := by omega
      have hltn : (k : Int) < (n : Int) := by omega
      clear hst hh
      go_wp2_with fail
      exact ⟨⟨k + 1, z + fz, by omega, by congr 1, by congr 1, HZ2.out, G.out⟩, by show n - ((k : Int) + 1).toNat < n - (k : Int).toNat; omega⟩
    · have hltn : ¬ ((k : Int) < (n : Int)) := by omega
      have hkn : k = n := by omega
      subst hkn
      have HZ3 := hid (show z = sm by rw [HZ.out, HSM.out, List.take_of_length_le (by rw [← HN.out]; exact Nat.le_refl _)])
      have G := hid hh
      clear hh
      go_wp2_with fail
      go_ret
      exact ⟨by rw [← HZ3.out]; rfl, G.out⟩
end Go.Proofs.YtdbhccehbjhbpaaGreatDoor

/- the reference, disk: hold. -/
namespace Go.Proofs.YtdbhccehbjhbpaaGreatDoor
open Go.RowKit

def holdOf (hs : List RF) (name : List UInt8) : Nat := match hs.find? fun f => f.name == name with
  | some f => f.n
  | none => 0
theorem holdOf_none {fs : List RF} {name : List UInt8} (h : ∀ f ∈ fs, f.name ≠ name) : holdOf fs name = 0 := by unfold holdOf; rw [find_none h]
theorem holdOf_some {fs : List RF} {name : List UInt8} {i : Nat} (hi : i < fs.length) (he : fs[i].name = name) (hne : ∀ j (hj : j < fs.length), j < i → fs[j].name ≠ name) : holdOf fs name = fs[i].n := by unfold holdOf; rw [find_some hi he hne]
theorem holdOf_fput (fs : List RF) (f : RF) (n : List UInt8) : holdOf (fput fs f) n = if n = f.name then f.n else holdOf fs n := by
  unfold holdOf
  rw [find_fput]
  by_cases hn : n = f.name
  · rw [if_pos hn, if_pos hn]
  · rw [if_neg hn, if_neg hn]
theorem heldSum_append (a b : List RF) : heldSum (a ++ b) = heldSum a + heldSum b := by unfold heldSum; rw [List.map_append, List.sum_append]
theorem heldSum_fput (fs : List RF) (f : RF) : heldSum (fput fs f) = heldSum (fwo fs f.name) + f.n := by
  obtain ⟨pre, post, h1, h2⟩ := fput_form fs f
  rw [h2, h1, heldSum_append, heldSum_append, show f :: post = [f] ++ post from rfl, heldSum_append]
  have : heldSum [f] = f.n := by simp [heldSum]
  omega
theorem heldSum_fwo (fs : List RF) (name : List UInt8) : heldSum (fwo fs name) + holdOf fs name ≤ heldSum fs := by
  induction fs with
  | nil => simp [fwo, heldSum, holdOf]
  | cons x l ih =>
    have hc : heldSum (x :: l) = x.n + heldSum l := by simp [heldSum]
    by_cases hx : x.name = name
    · have h1 : fwo (x :: l) name = fwo l name := by unfold fwo; rw [List.filter_cons_of_neg (by simp [hx])]
      have h2 : holdOf (x :: l) name = x.n := by unfold holdOf; rw [List.find?_cons_of_pos (by simp [hx])]
      have h3 : heldSum (fwo l name) ≤ heldSum l := by omega
      rw [h1, h2, hc]
      omega
    · have h1 : fwo (x :: l) name = x :: fwo l name := by unfold fwo; rw [List.filter_cons_of_pos (by simp [hx])]
      have h2 : holdOf (x :: l) name = holdOf l name := by unfold holdOf; rw [List.find?_cons_of_neg (by simp [hx])]
      have h3 : heldSum (x :: fwo l name) = x.n + heldSum (fwo l name) := by simp [heldSum]
      rw [h1, h2, h3, hc]
      omega

set_option maxRecDepth 100000 in
set_option maxHeartbeats 1000000 in
theorem rhold_held {w0 w : World} {B : List Res} {y sp : Nat} {vL vH : Value} {al : List RA} {hs : List RF} {ps : List (Value × List UInt8)} (h : Held w0 w (rBlk y 97 (rdCells sp vL vH) :: rAl vL al :: rBig bytesLoc ps :: rFl vH hs :: B)) (ha : ActsOk ps al) (s : List UInt8) (hm : Disk.may s = true) (hn : holdOf hs s ≤ total al s) (hl : hs.length ≤ 10000) :
    Calls Tryz.prog 138 #[.pointer (some ⟨y, 0, none⟩), sv s] w fun e w' => ∃ vH' ps', e = .returned (.tuple #[]) ∧ (∀ q ∈ ps, q ∈ ps') ∧ Held w0 w' (rBlk y 97 (rdCells sp vL vH') :: rAl vL al :: rBig bytesLoc ps' :: rFl vH' (fput hs ⟨s, none, 0, 0, total al s⟩) :: B) := by
  obtain ⟨A, c, rfl, hc, hm2⟩ := h.pull3.fl_form
  have c2 : w.cell? ⟨y, 2, none⟩ = some (.slice A hs.length c) := h.blk0.cell rfl
  have HX := hid (rfind_any w _ hs (Held.rows_rd h.pull3) s)
  have HL := hid (fun w1 (m : Mod (fun _ => False) w w1) => rlook_held (h.step m) ha s hm)
  have HH := hid h
  have HN := hid hn
  obtain ⟨n, hnn⟩ : ∃ n, n = hs.length := ⟨_, rfl⟩
  have HNN := hid hnn
  rw [← hnn] at hc c2 HX HL HH hl
  obtain ⟨tt, htt⟩ : ∃ tt, tt = total al s := ⟨_, rfl⟩
  have HTT := hid htt
  rw [← htt] at hn HN HL ⊢
  unfold sv at HX HL ⊢
  clear h ha hm hnn htt
  go_enter Tryz.func138, Tryz.ntmps138
  go_wp2_with fail
  refine HX.out.mono ?_
  rintro e w1 ⟨z, hz, rfl, rfl⟩
  have HZ := hid hz
  have HLL := hid (HL.out _ (Mod.refl _ _))
  clear hz HX HL
  rcases HZ.out with ⟨i, hi, rfl, hie, hine⟩ | ⟨rfl, hno⟩
  · obtain ⟨b, off, rfl, d0, d1, d2⟩ := (Held.rows_rd HH.out.pull3).rf hi
    have hho := holdOf_some hi hie hine
    rw [hho] at hn
    have hi1 : (i : Int) < (n : Int) := by rw [HNN.out]; omega
    have hi0 : (0 : Int) ≤ (i : Int) := by omega
    have hneg : ¬ ((i : Int) < 0) := by omega
    generalize hs[i] = f at *
    obtain ⟨fn, fA, fl, fc, fz⟩ := f
    dsimp only at d0 d1 d2 hn
    clear hi hie hine HZ hho
    go_wp2_with fail
    refine HLL.out.mono ?_
    rintro e w2 ⟨LA, ll, lc, z2, ps', rfl, hll, hz2, hsub, g2⟩
    subst hll
    have e2 : w2.cell? ⟨y, 2, none⟩ = some (.slice (some ⟨b, off, none⟩) n c) := g2.blk0.cell rfl
    have f2 := g2.blk0.frozen 2
    have hmax : max (fz : Int) (ll : Int) = (ll : Int) := by omega
    have HP := hid (show Calls Tryz.prog 186 #[.slice (some ⟨b, off, none⟩) n c, .agg #[.string ⟨s.toArray⟩, .slice none 0 0, .int .i64 ll]] w2 _ from rput_held g2.pull3 ⟨s, none, 0, 0, ll⟩ (by rw [← HNN.out]; exact hl))
    have HSUB := hid hsub
    clear g2 HLL HH hsub hz2
    go_wp2_with fail
    refine HP.out.mono ?_
    rintro e w3 ⟨v3, rfl, g3⟩
    obtain ⟨A3, N3, c3, hv3⟩ : ∃ A3 N3 c3, v3 = .slice A3 N3 c3 := by obtain ⟨a, b, e, -, -⟩ := g3.fl_form; exact ⟨_, _, _, e⟩
    subst hv3
    have e3 : w3.cell? ⟨y, 2, none⟩ = some (.slice (some ⟨b, off, none⟩) n c) := g3.pull2.blk0.cell rfl
    have f3 := g3.pull2.blk0.frozen 2
    have g4 := Held.store (l1 := []) g3.pull2 2 (.slice A3 N3 c3)
    have G4 := hid (show Held w0 (w3.setCell ⟨y, 2, none⟩ (.slice A3 N3 c3)) (rBlk y 97 (rdCells sp vL (.slice A3 N3 c3)) :: _) from g4)
    clear g3 g4 HP
    go_wp2_with fail
    go_end0
    exact ⟨_, ps', rfl, HSUB.out, G4.out.pull2.drop0.pull3.pull3.pull2⟩
  · have hneg : ((-1 : Int) < 0) := by decide
    clear hno HZ
    go_wp2_with fail
    refine HLL.out.mono ?_
    rintro e w2 ⟨LA, ll, lc, z2, ps', rfl, hll, hz2, hsub, g2⟩
    subst hll
    have e2 : w2.cell? ⟨y, 2, none⟩ = some (.slice A n c) := g2.blk0.cell rfl
    have f2 := g2.blk0.frozen 2
    have hmax : max (0 : Int) (ll : Int) = (ll : Int) := by omega
    have HP := hid (show Calls Tryz.prog 186 #[.slice A n c, .agg #[.string ⟨s.toArray⟩, .slice none 0 0, .int .i64 ll]] w2 _ from rput_held g2.pull3 ⟨s, none, 0, 0, ll⟩ (by rw [← HNN.out]; exact hl))
    have HSUB := hid hsub
    clear g2 HLL HH hsub hz2
    go_wp2_with fail
    refine HP.out.mono ?_
    rintro e w3 ⟨v3, rfl, g3⟩
    obtain ⟨A3, N3, c3, hv3⟩ : ∃ A3 N3 c3, v3 = .slice A3 N3 c3 := by obtain ⟨a, b, e, -, -⟩ := g3.fl_form; exact ⟨_, _, _, e⟩
    subst hv3
    have e3 : w3.cell? ⟨y, 2, none⟩ = some (.slice A n c) := g3.pull2.blk0.cell rfl
    have f3 := g3.pull2.blk0.frozen 2
    have g4 := Held.store (l1 := []) g3.pull2 2 (.slice A3 N3 c3)
    have G4 := hid (show Held w0 (w3.setCell ⟨y, 2, none⟩ (.slice A3 N3 c3)) (rBlk y 97 (rdCells sp vL (.slice A3 N3 c3)) :: _) from g4)
    clear g3 g4 HP
    go_wp2_with fail
    go_end0
    exact ⟨_, ps', rfl, HSUB.out, G4.out.pull2.drop0.pull3.pull3.pull2⟩
end Go.Proofs.YtdbhccehbjhbpaaGreatDoor

/- the reference, disk: count. -/
namespace Go.Proofs.YtdbhccehbjhbpaaGreatDoor
open Go.RowKit

theorem holdOf_fwo (hs : List RF) (s n : List UInt8) : holdOf (fwo hs s) n = if n = s then 0 else holdOf hs n := by
  by_cases hn : n = s
  · rw [if_pos hn, hn]
    exact holdOf_none fun f hf => by have := (List.mem_filter.1 hf).2; simpa using this
  · rw [if_neg hn]
    unfold holdOf
    rw [find_fwo hn]
theorem fwo_len (hs : List RF) (s : List UInt8) : (fwo hs s).length ≤ hs.length := List.length_filter_le _ _
/-- what count leaves of what is held. -/
structure Counted (al : List RA) (hs hs' : List RF) (s : List UInt8) : Prop where
  hold : ∀ n, holdOf hs' n = if n = s then total al s else holdOf hs n
  sum : heldSum hs' + holdOf hs s ≤ heldSum hs + total al s
  len : hs'.length ≤ hs.length + 1
theorem counted_put (al : List RA) (hs : List RF) (s : List UInt8) : Counted al hs (fput (fwo hs s) ⟨s, none, 0, 0, total al s⟩) s := by
  refine ⟨fun n => ?_, ?_, ?_⟩
  · rw [holdOf_fput]
    by_cases hn : n = s
    · rw [if_pos hn, if_pos hn]
    · rw [if_neg hn, if_neg hn, holdOf_fwo, if_neg hn]
  · have h1 := heldSum_fput (fwo hs s) ⟨s, none, 0, 0, total al s⟩
    have h2 := heldSum_fwo (fwo hs s) s
    have h3 := heldSum_fwo hs s
    dsimp only at h1
    omega
  · have h1 := fput_len (fwo hs s) ⟨s, none, 0, 0, total al s⟩
    have h2 := fwo_len hs s
    omega
theorem counted_not {al : List RA} {hs : List RF} {s : List UInt8} (h : total al s = 0) : Counted al hs (fwo hs s) s := by
  refine ⟨fun n => ?_, ?_, ?_⟩
  · rw [holdOf_fwo, h]
  · have h3 := heldSum_fwo hs s
    omega
  · have h2 := fwo_len hs s
    omega

set_option maxRecDepth 100000 in
set_option maxHeartbeats 1000000 in
theorem rcount_held {w0 w : World} {B : List Res} {y sp : Nat} {vL vH : Value} {al : List RA} {hs : List RF} {ps : List (Value × List UInt8)} (h : Held w0 w (rBlk y 97 (rdCells sp vL vH) :: rAl vL al :: rBig bytesLoc ps :: rFl vH hs :: B)) (ha : ActsOk ps al) (s : List UInt8) (hm : Disk.may s = true) (hl : hs.length ≤ 10000) :
    Calls Tryz.prog 144 #[.pointer (some ⟨y, 0, none⟩), sv s] w fun e w' => ∃ vH' ps' hs', e = .returned (.tuple #[]) ∧ Counted al hs hs' s ∧ (∀ q ∈ ps, q ∈ ps') ∧ Held w0 w' (rBlk y 97 (rdCells sp vL vH') :: rAl vL al :: rBig bytesLoc ps' :: rFl vH' hs' :: B) := by
  obtain ⟨A, c, rfl, hc, hm2⟩ := h.pull3.fl_form
  have c2 : w.cell? ⟨y, 2, none⟩ = some (.slice A hs.length c) := h.blk0.cell rfl
  have HW := hid (rwithout_held h.pull3 s hl)
  have HL := hid (fun w1 vH1 B1 (g1 : Held w0 w1 (rBlk y 97 (rdCells sp vL vH1) :: rAl vL al :: rBig bytesLoc ps :: B1)) => rlook_held g1 ha s hm)
  have HC1 := hid (counted_put al hs s)
  have HC2 := hid (@counted_not al hs s)
  have HFL := hid (show (fwo hs s).length ≤ 10000 by have := fwo_len hs s; omega)
  generalize fwo hs s = hw at *
  generalize hs.length = n at *
  unfold sv at HW HL ⊢
  clear h ha hm
  go_enter Tryz.func144, Tryz.ntmps144
  go_wp2_with fail
  refine HW.out.mono ?_
  rintro e w1 ⟨v1, rfl, g1⟩
  obtain ⟨A1, N1, k1, hv1⟩ : ∃ A1 N1 k1, v1 = .slice A1 N1 k1 := by obtain ⟨a, b, e, -, -⟩ := g1.fl_form; exact ⟨_, _, _, e⟩
  subst hv1
  have e2 : w1.cell? ⟨y, 2, none⟩ = some (.slice A n c) := g1.pull2.blk0.cell rfl
  have f2 := g1.pull2.blk0.frozen 2
  have g2 := Held.store (l1 := []) g1.pull2 2 (.slice A1 N1 k1)
  have g3 : Held w0 (w1.setCell ⟨y, 2, none⟩ (.slice A1 N1 k1)) (rBlk y 97 (rdCells sp vL (.slice A1 N1 k1)) :: _) := g2
  have G3 := hid g3.pull2.drop0.pull3.pull3.pull2
  have HLL := hid (HL.out _ _ _ G3.out)
  clear g1 g2 g3 HW HL
  go_wp2_with fail
  refine HLL.out.mono ?_
  rintro e w2 ⟨LA, ll, lc, z, ps', rfl, hll, hz, hsub, g4⟩
  have HS := hid hsub
  clear HLL G3 c2 e2 f2 hsub
  rcases hz with rfl | ⟨rfl, hz0⟩
  · have x2 : w2.cell? ⟨y, 2, none⟩ = some (.slice A1 N1 k1) := g4.blk0.cell rfl
    have HP := hid (show Calls Tryz.prog 186 #[.slice A1 N1 k1, .agg #[.string ⟨s.toArray⟩, .slice none 0 0, .int .i64 ll]] w2 _ from rput_held g4.pull3 ⟨s, none, 0, 0, ll⟩ HFL.out)
    have HLT := hid hll
    clear g4 hll
    go_wp2_with fail
    refine HP.out.mono ?_
    rintro e w3 ⟨v3, rfl, g5⟩
    obtain ⟨A3, N3, c3, hv3⟩ : ∃ A3 N3 c3, v3 = .slice A3 N3 c3 := by obtain ⟨a, b, e, -, -⟩ := g5.fl_form; exact ⟨_, _, _, e⟩
    subst hv3
    have e3 : w3.cell? ⟨y, 2, none⟩ = some (.slice A1 N1 k1) := g5.pull2.blk0.cell rfl
    have f3 := g5.pull2.blk0.frozen 2
    have g6 := Held.store (l1 := []) g5.pull2 2 (.slice A3 N3 c3)
    have G6 := hid (show Held w0 (w3.setCell ⟨y, 2, none⟩ (.slice A3 N3 c3)) (rBlk y 97 (rdCells sp vL (.slice A3 N3 c3)) :: _) from g6)
    clear g5 g6 HP
    go_wp2_with fail
    go_end0
    have g7 := G6.out.pull2.drop0.pull3.pull3.pull2
    rw [HLT.out] at g7
    exact ⟨_, ps', _, rfl, HC1.out, HS.out, g7⟩
  · have HT := hid (show total al s = 0 by omega)
    have G4 := hid g4
    clear g4 hll hz0
    go_wp2_with fail
    go_end0
    exact ⟨_, ps', _, rfl, HC2.out HT.out, HS.out, G4.out⟩
end Go.Proofs.YtdbhccehbjhbpaaGreatDoor

/- the reference, disk: Sync. -/
namespace Go.Proofs.YtdbhccehbjhbpaaGreatDoor
open Go.RowKit

def mark (s : List UInt8) (a : RA) : RA := if a.name = s then { a with sure := true } else a
def marks (al : List RA) (s : List UInt8) (k : Nat) : List RA := (al.take k).map (mark s) ++ al.drop k
theorem mark_name (s : List UInt8) (a : RA) : (mark s a).name = a.name := by unfold mark; split <;> rfl
theorem mark_len (s : List UInt8) (a : RA) : (mark s a).len = a.len := by unfold mark; split <;> rfl
theorem mark_at (s : List UInt8) (a : RA) : (mark s a).at_ = a.at_ := by unfold mark; split <;> rfl
theorem mark_bag {ps : List (Value × List UInt8)} {s : List UInt8} {a : RA} (h : inBag ps a.A a.len a.c) : inBag ps (mark s a).A (mark s a).len (mark s a).c := by unfold mark; split <;> exact h
theorem total_marked (al : List RA) (s n : List UInt8) : total (al.map (mark s)) n = total al n := by
  induction al with
  | nil => rfl
  | cons a l ih =>
    have h1 : ∀ (x : RA) (m : List RA), total (x :: m) n = (if x.name = n then x.len else 0) + total m n := by
      intro x m
      unfold total
      by_cases h : x.name = n
      · simp [h]
      · simp [h]
    rw [List.map_cons, h1, h1, ih, mark_name, mark_len]
theorem ActsOk.marked {ps : List (Value × List UInt8)} {al : List RA} (h : ActsOk ps al) (s : List UInt8) : ActsOk ps (al.map (mark s)) := by
  refine ⟨fun k hk => ?_, fun a ha => ?_, by rw [List.length_map]; exact h.few, fun n => by rw [total_marked]; exact h.small n⟩
  · have hk' : k < al.length := by simpa using hk
    rw [List.getElem_map, mark_at, mark_name, ← List.map_take, total_marked]
    exact h.at_ k hk'
  · obtain ⟨b, hb, rfl⟩ := List.mem_map.1 ha
    exact mark_bag (h.bag b hb)
theorem marks_len (al : List RA) (s : List UInt8) (k : Nat) : (marks al s k).length = al.length := by
  unfold marks
  rw [List.length_append, List.length_map, List.length_take, List.length_drop]
  omega
theorem marks_at {al : List RA} (s : List UInt8) {k : Nat} (hk : k < al.length) : (marks al s k)[k]'(by rw [marks_len]; exact hk) = al[k] := by
  unfold marks
  rw [List.getElem_append_right (by simp; omega)]
  simp [List.length_take, Nat.min_eq_left (Nat.le_of_lt hk)]
theorem marks_succ {al : List RA} (s : List UInt8) {k : Nat} (hk : k < al.length) : marks al s (k + 1) = (marks al s k).set k (mark s al[k]) := by
  unfold marks
  have h1 : ((al.take k).map (mark s)).length = k := by rw [List.length_map, List.length_take]; omega
  rw [List.take_succ_eq_append_getElem hk, List.map_append, List.append_assoc]
  rw [List.drop_eq_getElem_cons hk, List.set_append_right _ _ (by omega), h1, Nat.sub_self]
  rfl
theorem marks_all (al : List RA) (s : List UInt8) : marks al s al.length = al.map (mark s) := by
  unfold marks
  rw [List.take_length, List.drop_length, List.append_nil]
theorem marks_zero (al : List RA) (s : List UInt8) : marks al s 0 = al := rfl

set_option maxRecDepth 100000 in
set_option maxHeartbeats 1000000 in
theorem rsync_held {w0 w : World} {B : List Res} {y sp : Nat} {vL vH : Value} {al : List RA} {hs : List RF} {ps : List (Value × List UInt8)} (h : Held w0 w (rBlk y 97 (rdCells sp vL vH) :: rAl vL al :: rBig bytesLoc ps :: rFl vH hs :: B)) (ha : ActsOk ps al) (s : List UInt8) (hm : Disk.may s = true) (hl : hs.length ≤ 10000) (ht : 0 < total al s) :
    Calls Tryz.prog 93 #[.pointer (some ⟨y, 0, none⟩), sv s] w fun e w' => ∃ vH' ps' hs', e = .returned (.int .i64 0) ∧ Counted al hs hs' s ∧ (∀ q ∈ ps, q ∈ ps') ∧ Held w0 w' (rBlk y 97 (rdCells sp vL vH') :: rAl vL (al.map (mark s)) :: rBig bytesLoc ps' :: rFl vH' hs' :: B) := by
  have hne : al ≠ [] := by rintro rfl; simp [total] at ht
  have HL := hid (rlook_held h ha s hm)
  have HC := hid (fun w1 ps1 B1 (hs1 : ∀ q ∈ ps, q ∈ ps1) (g1 : Held w0 w1 (rBlk y 97 (rdCells sp vL vH) :: rAl vL (al.map (mark s)) :: rBig bytesLoc ps1 :: rFl vH hs :: B1)) => rcount_held g1 ((ha.marked s).up hs1) s hm hl)
  obtain ⟨A, c, rfl, hc, hm2⟩ := h.pull1.al_form
  have HT := hid (fun n => total_marked al s n)
  obtain ⟨n, hn⟩ : ∃ n, n = al.length := ⟨_, rfl⟩
  have HN := hid hn
  rw [← hn] at hc HL HC ⊢
  have HTT := hid ht
  have HNE := hid hne
  unfold sv at HL HC ⊢
  clear h ha hm ht hn hne
  go_enter Tryz.func93, Tryz.ntmps93
  go_wp2_with fail
  refine HL.out.mono ?_
  rintro e w1 ⟨LA, ll, lc, z, ps', rfl, hll, hz, hsub, g1⟩
  have hz0 : z = 0 := by
    rcases hz with hz | ⟨-, hz⟩
    · exact hz
    · have := HTT.out
      omega
  subst hz0
  have HSUB := hid hsub
  have c1 : w1.cell? ⟨y, 1, none⟩ = some (.slice A n c) := g1.blk0.cell rfl
  have G1 := hid (show Held w0 w1 (rBlk y 97 (rdCells sp (.slice A n c) vH) :: rAl (.slice A n c) (marks al s 0) :: rBig bytesLoc ps' :: rFl vH hs :: B) from g1)
  clear hll hz hsub g1 HL
  go_wp2_with fail
  go_loopw [22] (fun iv wr => ∃ k : Nat, k ≤ n ∧ iv = .int .i64 k ∧ Held w0 wr (rBlk y 97 (rdCells sp (.slice A n c) vH) :: rAl (.slice A n c) (marks al s k) :: rBig bytesLoc ps' :: rFl vH hs :: B)) (fun iv _ => n - (intOf iv).toNat)
  case atStart => exact ⟨0, Nat.zero_le _, rfl, G1.out⟩
  case round =>
    clear G1 c1
    obtain ⟨k, hk, rfl, hh⟩ := hrel
    have c1 : wr.cell? ⟨y, 1, none⟩ = some (.slice A n c) := hh.blk0.cell rfl
    by_cases hlt : k < n
    · have hlk : k < al.length := by rw [← HN.out]; exact hlt
      have hlk2 : k < (marks al s k).length := by rw [marks_len]; exact hlk
      obtain ⟨g, c', hA⟩ : ∃ g c', Value.slice A n c = .slice (some ⟨g, 0, none⟩) n c' := by
        obtain ⟨g, c', hv, -, -, -⟩ := Held.row_at (h := hh.pull1) (j := k) (r := arow al[k]) (by rw [List.getElem?_map, List.getElem?_eq_getElem hlk2, marks_at s hlk]; rfl)
        rw [List.length_map, marks_len, ← HN.out] at hv
        exact ⟨g, c', hv⟩
      injection hA with e1 e2 e3
      subst e1
      clear e2 e3
      obtain ⟨b, off, e1, d0, d1, d2, d3, d4⟩ := (Held.rows_rd hh.pull1).ra hlk2
      injection e1 with e1
      injection e1 with e1 e2
      subst e1 e2
      rw [marks_at s hlk] at d1 d2 d3 d4
      rw [Nat.zero_add] at d0 d1 d2 d3 d4
      obtain ⟨hst, hfz⟩ := Held.row_store (by rw [List.length_map, marks_len]; exact HN.out.symm) hh.pull1 (j := k) (r := arow al[k]) (by rw [List.getElem?_map, List.getElem?_eq_getElem hlk2, marks_at s hlk]; rfl) (m := 4) (by decide) (.bool true)
      have HMS := hid (marks_succ s hlk)
      have hk0 : (0 : Int) ≤ (k : Int) := by omega
      have hltn : (k : Int) < (n : Int) := by omega
      have HMA := hid (marks_at s hlk)
      by_cases he : al[k].name = s
      · have hse : arow (mark s al[k]) = (arow al[k]).set 4 (.bool true) := by unfold mark; rw [if_pos he]; rfl
        have HST := hid (show Held w0 (wr.setCell ⟨g, k * 5 + 4, none⟩ (.bool true)) (rAl (.slice (some ⟨g, 0, none⟩) n c) (marks al s (k + 1)) :: _) by
          unfold rAl
          rw [HMS.out, List.map_set, hse]
          exact hst)
        rw [he] at d1
        clear hst hse HMS HMA he hh
        go_wp2_with fail
        exact ⟨⟨k + 1, by omega, by congr 1, HST.out.pull1⟩, by show n - ((k : Int) + 1).toNat < n - (k : Int).toNat; omega⟩
      · have hse : marks al s (k + 1) = marks al s k := by
          rw [HMS.out]
          unfold mark
          rw [if_neg he]
          conv => lhs; arg 3; rw [← HMA.out]
          exact List.set_getElem_self _
        have HSE := hid hse
        have G := hid hh
        have hkb : (al[k].name == s) = false := by rw [beq_eq_false_iff_ne]; exact he
        clear hst hse HMS HMA hh
        generalize al[k].name = an at *
        go_wp2_with fail
        all_goals first | exact absurd (by assumption) he | skip
        refine ⟨⟨k + 1, by omega, by congr 1, ?_⟩, by show n - ((k : Int) + 1).toNat < n - (k : Int).toNat; omega⟩
        rw [HSE.out]
        exact G.out
    · have hltn : ¬ ((k : Int) < (n : Int)) := by omega
      have hkn : k = n := by omega
      subst hkn
      rw [show marks al s k = al.map (mark s) by rw [HN.out, marks_all]] at hh
      have HCC := hid (HC.out _ _ _ HSUB.out hh)
      clear hh HC
      go_wp2_with fail
      refine HCC.out.mono ?_
      rintro e w3 ⟨vH', ps2, hs', rfl, hcn, hs2, g3⟩
      have G3 := hid g3
      have HCN := hid (show Counted al hs hs' s from ⟨fun m => by rw [hcn.hold, HT.out], by have := hcn.sum; rw [HT.out] at this; exact this, hcn.len⟩)
      have HS2 := hid hs2
      clear g3 hcn hs2 HCC
      go_wp2_with fail
      go_ret
      first
        | exact ⟨_, ps2, hs', rfl, HCN.out, fun q hq => HS2.out q (HSUB.out q hq), G3.out⟩
        | exact ⟨rfl, _, ps2, hs', HCN.out, fun a b hq => HS2.out (a, b) (HSUB.out (a, b) hq), G3.out⟩
end Go.Proofs.YtdbhccehbjhbpaaGreatDoor

/- the reference log: Next, file. -/
namespace Go.Proofs.YtdbhccehbjhbpaaGreatDoor
open Go.RowKit
open Slog (nameB)

/-- a log's cells: its disk, its segments' numbers, its records, the first one's number. -/
def rlCells (y : Nat) (vS vR : Value) (from_ : Nat) : Array Value := #[.pointer (some ⟨y, 0, none⟩), vS, vR, .int .i64 from_]
set_option maxRecDepth 100000 in
theorem rnext_held {w0 w : World} {B : List Res} {g y n c : Nat} {A : Option Addr} {vS : Value} (h : Held w0 w (rBlk g 106 (rlCells y vS (.slice A n c) 1) :: B)) (hn : n ≤ 1000) :
    Calls Tryz.prog 90 #[.pointer (some ⟨g, 0, none⟩)] w fun e w' => e = .returned (.int .i64 ((1 + n : Nat) : Int)) ∧ Held w0 w' (rBlk g 106 (rlCells y vS (.slice A n c) 1) :: B) := by
  have c2 : w.cell? ⟨g, 2, none⟩ = some (.slice A n c) := h.blk0.cell rfl
  have c3 : w.cell? ⟨g, 3, none⟩ = some (.int .i64 1) := h.blk0.cell rfl
  have hw : IntKind.i64.wrap (1 + (n : Int)) = ((1 + n : Nat) : Int) := by rw [IntKind.wrap_i64]; omega
  have HH := hid h
  clear h
  go_enter Tryz.func90, Tryz.ntmps90
  go_wp2_with fail
  go_quiet (fail)
  go_wp2_with fail
  go_ret
  exact ⟨by first | rfl | (show Ending.returned (.int .i64 _) = _; congr 2), HH.out.drewN _⟩

set_option maxRecDepth 100000 in
set_option maxHeartbeats 1000000 in
/-- of a log without segments. -/
theorem rfile_none {w0 w : World} {B : List Res} {g y : Nat} {A : Option Addr} {c f : Nat} {vR : Value} (h : Held w0 w (rBlk g 106 (rlCells y (.slice A 0 c) vR f) :: B)) :
    Calls Tryz.prog 92 #[.pointer (some ⟨g, 0, none⟩)] w fun e w' => e = .returned (.tuple #[sv [], .int .i64 (-1)]) ∧ w' = w := by
  have c1 : w.cell? ⟨g, 1, none⟩ = some (.slice A 0 c) := h.blk0.cell rfl
  clear h
  unfold sv
  go_enter Tryz.func92, Tryz.ntmps92
  go_wp2_with fail
  go_ret2
  exact ⟨rfl, rfl⟩

set_option maxRecDepth 100000 in
set_option maxHeartbeats 1000000 in
theorem rread_held {w0 w : World} {B : List Res} {y sp : Nat} {vL vH : Value} {al : List RA} {ps : List (Value × List UInt8)} (h : Held w0 w (rBlk y 97 (rdCells sp vL vH) :: rAl vL al :: rBig bytesLoc ps :: B)) (ha : ActsOk ps al) (s : List UInt8) (hm : Disk.may s = true) :
    Calls Tryz.prog 79 #[.pointer (some ⟨y, 0, none⟩), sv s] w fun e w' => ∃ (A : Option Addr) (len c : Nat) (z : Int) (ps' : List (Value × List UInt8)), e = .returned (.tuple #[.slice A len c, .int .i64 z]) ∧ len = total al s ∧ (∀ q ∈ ps, q ∈ ps') ∧ Held w0 w' (rBlk y 97 (rdCells sp vL vH) :: rAl vL al :: rBig bytesLoc ps' :: B) := by
  have HL := hid (rlook_held h ha s hm)
  unfold sv at HL ⊢
  clear h ha hm
  go_enter Tryz.func79, Tryz.ntmps79
  go_wp2_with fail
  refine HL.out.mono ?_
  rintro e w1 ⟨A, len, c, z, ps', rfl, hll, -, hsub, g1⟩
  have HH := hid (And.intro hll (And.intro hsub g1))
  clear hll hsub g1 HL
  go_wp2_with fail
  go_ret2
  exact ⟨A, len, c, z, ps', rfl, HH.out⟩

def natRow (l : List Nat) : List Value := l.map fun (k : Nat) => Value.int .i64 (k : Int)
set_option maxRecDepth 100000 in
set_option maxHeartbeats 1000000 in
/-- of a log with segments. -/
theorem rfile_some {w0 w : World} {B : List Res} {g y f m k N : Nat} {A : Option Addr} {c sp : Nat} {vR vL vH : Value} {sl : List Nat} {al : List RA} {ps : List (Value × List UInt8)} (h : Held w0 w (rBlk y 97 (rdCells sp vL vH) :: rAl vL al :: rBig bytesLoc ps :: rBlk g 106 (rlCells y (.slice A N c) vR f) :: rOwn 3 (.slice A N c) (natRow (sl ++ [k])) :: B)) (ha : ActsOk ps al) (hN : N = m + 1) (hm : sl.length = m) (hm2 : m ≤ 1000) (hk1 : 1 ≤ k) (hk2 : k < 100) :
    Calls Tryz.prog 92 #[.pointer (some ⟨g, 0, none⟩)] w fun e w' => ∃ ps', e = .returned (.tuple #[sv (nameB k), .int .i64 (total al (nameB k))]) ∧ (∀ q ∈ ps, q ∈ ps') ∧ Held w0 w' (rBlk y 97 (rdCells sp vL vH) :: rAl vL al :: rBig bytesLoc ps' :: rBlk g 106 (rlCells y (.slice A N c) vR f) :: rOwn 3 (.slice A N c) (natRow (sl ++ [k])) :: B) := by
  have c1 : w.cell? ⟨g, 1, none⟩ = some (.slice A N c) := h.pull3.blk0.cell rfl
  obtain ⟨A', c', hv, hc, -, hA⟩ := Held.own_rd (l1 := []) h.pull4
  have hrow : (natRow (sl ++ [k]))[m]? = some (.int .i64 (k : Int)) := by
    unfold natRow
    rw [List.getElem?_map, List.getElem?_append_right (by omega), hm, Nat.sub_self]
    rfl
  injection hv with e1 e2 e3
  subst e1
  obtain ⟨b, off, rfl, -, hcell⟩ := hA (by intro e; rw [e] at hrow; simp at hrow)
  have hx := hcell m _ hrow
  have HNM := hid (fun w => rname_any w k hk1 hk2)
  have HR := hid (fun w1 (m1 : Mod (fun _ => False) w w1) => rread_held (h.step m1) ha (nameB k) (Slog.may_name (by omega)))
  have HG := hid (fun w1 (g1 : Held w0 w1 (rBlk y 97 (rdCells sp vL vH) :: rAl vL al :: rBig bytesLoc ps :: rBlk g 106 (rlCells y (.slice (some ⟨b, off, none⟩) N c) vR f) :: rOwn 3 (.slice (some ⟨b, off, none⟩) N c) (natRow (sl ++ [k])) :: B)) => show w1.cell? ⟨g, 0, none⟩ = some (.pointer (some ⟨y, 0, none⟩)) from g1.pull3.blk0.cell rfl)
  have HH := hid h
  have hw : IntKind.i64.wrap ((N : Int) - 1) = (m : Int) := by rw [IntKind.wrap_i64]; omega
  have hm0 : (0 : Int) ≤ (m : Int) := by omega
  have hm1 : (m : Int) < (N : Int) := by omega
  have hn0 : ((N : Int) == 0) = false := by rw [beq_eq_false_iff_ne]; omega
  clear h hcell hA hrow e2 e3 hm hN hc
  unfold sv at HNM HR ⊢
  go_enter Tryz.func92, Tryz.ntmps92
  go_wp2_with fail
  go_still_tail 12, (by kernel_rfl)
  go_wp2_with (first
    | (go_at_call 82; refine (HNM.out _).mono ?_; rintro e w1 ⟨rfl, m1⟩; have M1 := hid (show Mod (fun _ => False) w w1 from (Mod.refl _ w).drew.trans' m1); have z0 := HG.out _ (HH.out.step M1.out); clear m1 HNM)
    | (go_at_call 79; refine (HR.out _ M1.out).mono ?_; rintro e w2 ⟨LA, ll, lc, z, ps', rfl, hll, hsub, g2⟩; have HLL := hid (And.intro hll (And.intro hsub g2)); clear hll hsub g2 HR))
  go_ret2
  refine ⟨ps', ?_, HLL.out.2⟩
  rw [← HLL.out.1]
  rfl
end Go.Proofs.YtdbhccehbjhbpaaGreatDoor

/- the reference: a new disk, and the log that is opened of it. -/
namespace Go.Proofs.YtdbhccehbjhbpaaGreatDoor
open Go.RowKit

/-- a disk on which nothing was done. -/
def rEmpty (y sp : Nat) : List Res := [rBlk y 97 (rdCells sp (.slice none 0 0) (.slice none 0 0)), rAl (.slice none 0 0) [], rBig bytesLoc [], rFl (.slice none 0 0) []]
theorem acts_nil : ActsOk [] [] := ⟨fun k h => by simp at h, fun a h => by simp at h, Nat.zero_le _, fun n => Nat.zero_le _⟩
set_option maxRecDepth 100000 in
theorem rnew_held {w0 w : World} {B : List Res} (h : Held w0 w B) (sp : Nat) (hs : sp ≤ 16777216) :
    Calls Tryz.prog 16 #[.int .i64 sp] w fun e w' => ∃ y, e = .returned (.tuple #[.pointer (some ⟨y, 0, none⟩), .int .i64 0]) ∧ Held w0 w' (rBlk y 97 (rdCells sp (.slice none 0 0) (.slice none 0 0)) :: rAl (.slice none 0 0) [] :: rBig bytesLoc [] :: rFl (.slice none 0 0) [] :: B) := by
  have h1 : Held w0 w (rFl (.slice none 0 0) [] :: B) := h.rows_nil 3 196
  have h2 : Held w0 w (rBig bytesLoc [] :: rFl (.slice none 0 0) [] :: B) := h1.big_nil bytesLoc
  have h3 : Held w0 w (rAl (.slice none 0 0) [] :: rBig bytesLoc [] :: rFl (.slice none 0 0) [] :: B) := h2.rows_nil 5 201
  have HH := hid (h3.block 97 (rdCells sp (.slice none 0 0) (.slice none 0 0)))
  have e1 : ¬ ((sp : Int) < 0) := by omega
  have e2 : ¬ ((16777216 : Int) < (sp : Int)) := by omega
  clear h h1 h2 h3
  go_enter Tryz.func16, Tryz.ntmps16
  go_wp2_with fail
  go_ret2
  exact ⟨_, rfl, HH.out⟩
set_option maxRecDepth 100000 in
theorem rflush_none {w0 w : World} {B : List Res} {y sp : Nat} {ps0 : List (Value × List UInt8)} (h : Held w0 w (rBlk y 97 (rdCells sp (.slice none 0 0) (.slice none 0 0)) :: rAl (.slice none 0 0) [] :: rBig bytesLoc ps0 :: B)) :
    Calls Tryz.prog 84 #[.pointer (some ⟨y, 0, none⟩)] w fun e w' => e = .returned (.int .i64 0) ∧ ∃ ps, Held w0 w' (rBlk y 97 (rdCells sp (.slice none 0 0) (.slice none 0 0)) :: rAl (.slice none 0 0) [] :: rBig bytesLoc ps :: B) := by
  have HF := hid (rfiles_held h (acts_nil.up fun q hq => by cases hq))
  have HB := hid (fun w1 A c (B1 : List Res) (g1 : Held w0 w1 (rBlk y 97 (rdCells sp (.slice none 0 0) (.slice none 0 0)) :: B1)) => show Calls Tryz.prog 139 #[.pointer (some ⟨y, 0, none⟩), .slice A 0 c] w1 fun e w' => e = .returned (.tuple #[]) ∧ Held w0 w' (rBlk y 97 (rdCells sp (.slice none 0 0) (.slice none 0 0)) :: B1) from by
    have c1 : w1.cell? ⟨y, 1, none⟩ = some (.slice none 0 0) := g1.blk0.cell rfl
    have f1 := g1.blk0.frozen 1
    have g2 := Held.store (l1 := []) g1 1 (.slice none 0 0)
    have c2 : (w1.setCell ⟨y, 1, none⟩ (.slice none 0 0)).cell? ⟨y, 2, none⟩ = some (.slice none 0 0) := g2.blk0.cell rfl
    have f2 := g2.blk0.frozen 2
    have g3 := Held.store (l1 := []) g2 2 (.slice none 0 0)
    have HH := hid g3
    clear g1 g2 g3
    go_enter Tryz.func139, Tryz.ntmps139
    go_wp2_with fail
    refine wp_loop_rounds 1 ?_
    rw [rounds_succ]
    go_wp2_with fail
    go_end0
    exact ⟨rfl, HH.out⟩)
  clear h
  go_enter Tryz.func84, Tryz.ntmps84
  go_wp2_with fail
  refine HF.out.mono ?_
  rintro e w1 ⟨v', fs, ps', rfl, hfo, -, g1⟩
  have hfs : fs = [] := List.eq_nil_of_length_eq_zero (by have := hfo.few; simpa using this)
  subst hfs
  obtain ⟨A, c, rfl, -, -⟩ := g1.fl_form
  have HB2 := hid (HB.out _ A c _ g1.drop0)
  clear g1 HF HB hfo
  go_wp2_with fail
  refine HB2.out.mono ?_
  rintro e w2 ⟨rfl, g2⟩
  have G2 := hid g2
  clear g2 HB2
  go_wp2_with fail
  go_ret
  exact ⟨rfl, ps', G2.out⟩
set_option maxRecDepth 100000 in
theorem rlist_none {w0 w : World} {B : List Res} {y sp : Nat} (h : Held w0 w (rBlk y 97 (rdCells sp (.slice none 0 0) (.slice none 0 0)) :: rAl (.slice none 0 0) [] :: rBig bytesLoc [] :: B)) :
    Calls Tryz.prog 77 #[.pointer (some ⟨y, 0, none⟩)] w fun e w' => e = .returned (.slice none 0 0) ∧ ∃ ps, Held w0 w' (rBlk y 97 (rdCells sp (.slice none 0 0) (.slice none 0 0)) :: rAl (.slice none 0 0) [] :: rBig bytesLoc ps :: B) := by
  have HF := hid (rfiles_held h acts_nil)
  clear h
  go_enter Tryz.func77, Tryz.ntmps77
  go_wp2_with fail
  refine HF.out.mono ?_
  rintro e w1 ⟨v', fs, ps', rfl, hfo, -, g1⟩
  have hfs : fs = [] := List.eq_nil_of_length_eq_zero (by have := hfo.few; simpa using this)
  subst hfs
  obtain ⟨A, c, rfl, -, -⟩ := g1.fl_form
  have G1 := hid g1.drop0
  clear g1 HF hfo
  go_wp2_with fail
  refine wp_loop_rounds 1 ?_
  rw [rounds_succ]
  go_wp2_with fail
  go_ret
  exact ⟨rfl, ps', G1.out⟩
end Go.Proofs.YtdbhccehbjhbpaaGreatDoor

/- the reference, disk: Write. -/
namespace Go.Proofs.YtdbhccehbjhbpaaGreatDoor
open Go.RowKit

theorem Tryz.infoRAct : (Tryz.prog.info? 201).map (fun i => (i.zero, i.size, i.bytes)) = some (some (.agg #[.int .i64 0, .string ⟨#[]⟩, .int .i64 0, .slice none 0 0, .bool false]), 5, 64) := by kernel_rfl
theorem arow_one (a : RA) : ∀ y ∈ arow a, y.oneCell' = true := by
  intro y hy
  unfold arow sv at hy
  simp only [List.mem_cons, List.not_mem_nil, or_false] at hy
  rcases hy with rfl | rfl | rfl | rfl | rfl <;> rfl
/-- append of one act. -/
theorem wpl_act {w0 w : World} {ops : Array Oper} {rest : List Oper} {o : Oper} {a : Act} {Q : Exit → Act → World → Prop} {B : List Res} (hgd : o.guard = none) (s x : Operand)
    (ho : o.op = .call { callee := .builtin .append, args := #[s, x], argTypes := #[94, 94] })
    (v : Value) (al : List RA) (hs : a.eval s = v) (hh : Held w0 w (rAl v al :: B)) (ad : Addr) (c : Nat) (f : RA) (hx : a.eval x = .slice (some ad) 1 c) (hcell : ∀ j u, (arow f)[j]? = some u → w.cell? (ad.add j) = some u) (hb : al.length ≤ 1000000)
    (h : ∀ A c w', Held w0 w' (rAl (.slice A (al.length + 1) c) (al ++ [f]) :: B) → wpList Tryz.prog ops Q rest (a.put o.dst (.slice A (al.length + 1) c)) w') : wpList Tryz.prog ops Q (o :: rest) a w := by
  obtain ⟨iI, ii, iz, is, ib⟩ := info_parts Tryz.infoRAct
  refine wpList_append_row [] B hgd s x 94 ho 5 201 iI _ 64 Tryz.underlying94 ii iz is ib rfl (by decide) v (al.map arow) al.length (List.length_map ..) hs hh ad c (arow f) hx rfl hcell (arow_one f) (by omega) (by unfold maxLen; omega) ?_
  intro A c' w' _ _ g
  refine h A c' w' ?_
  unfold rAl
  rw [List.map_append]
  exact g

/-- append of bytes onto nothing, in a region that draws. -/
theorem step_app0 {w0 w : World} {ops : Array Oper} {o : Oper} {a : Act} {K : Act → World → Prop} {Q : Exit → Act → World → Prop} {E : Prop} {B : List Res} (hgd : o.guard = none) (s x : Operand)
    (ho : o.op = .call { callee := .builtin .append, args := #[s, x], argTypes := #[87, 87] })
    (hs : a.eval s = .slice none 0 0) (hh : Held w0 w B) (S : Nat → Prop) (u : Value) (l2 : List UInt8) (hx : a.eval x = u) (hr : Rd S w u (bytesV l2)) (hb : l2.length ≤ 1000000000000)
    (h : ∀ A c w', Held w0 w' (rBytes (.slice A l2.length c) l2 :: B) → K (a.put o.dst (.slice A l2.length c)) w') : if Region.wanted o (yielded ops a.tmps) = true then Oper.wp Tryz.prog o a w K Q else E := by
  obtain ⟨i0, hi, hz0, hz1, hz2⟩ := info_parts Tryz.info5
  refine step_append_held [] B hgd s x 87 ho 5 i0 (.int .u8 0) 1 Tryz.underlying87 hi hz0 hz1 hz2 rfl (.slice none 0 0) (bytesV []) hs (Held.nil_own hh 5) S u (bytesV l2) hx hr (bytesV_one _) ?_ ?_ ?_
  · rw [bytesV_length, bytesV_length]; simp only [List.length_nil]; omega
  · rw [bytesV_length, bytesV_length]; unfold maxLen; simp only [List.length_nil]; omega
  · intro A c w' _ _ g
    rw [bytesV_length, bytesV_length, List.length_nil, Nat.zero_add] at g ⊢
    exact h A c w' g
/-- append of bytes onto bytes that are owned, in a region that draws. -/
theorem step_app {w0 w : World} {ops : Array Oper} {o : Oper} {a : Act} {K : Act → World → Prop} {Q : Exit → Act → World → Prop} {E : Prop} {B : List Res} (hgd : o.guard = none) (s x : Operand)
    (ho : o.op = .call { callee := .builtin .append, args := #[s, x], argTypes := #[87, 87] })
    (v : Value) (hs : a.eval s = v) (hh : Held w0 w (rBytes v [] :: B)) (S : Nat → Prop) (u : Value) (l2 : List UInt8) (n : Nat) (hn : n = l2.length) (hx : a.eval x = u) (hr : Rd S w u (bytesV l2)) (hb : n ≤ 1000000000000)
    (h : ∀ A c w', Held w0 w' (rBytes (.slice A n c) l2 :: B) → K (a.put o.dst (.slice A n c)) w') : if Region.wanted o (yielded ops a.tmps) = true then Oper.wp Tryz.prog o a w K Q else E := by
  subst hn
  obtain ⟨i0, hi, hz0, hz1, hz2⟩ := info_parts Tryz.info5
  refine step_append_held [] B hgd s x 87 ho 5 i0 (.int .u8 0) 1 Tryz.underlying87 hi hz0 hz1 hz2 rfl v (bytesV []) hs hh S u (bytesV l2) hx hr (bytesV_one _) ?_ ?_ ?_
  · rw [bytesV_length, bytesV_length]; simp only [List.length_nil]; omega
  · rw [bytesV_length, bytesV_length]; unfold maxLen; simp only [List.length_nil]; omega
  · intro A c w' _ _ g
    rw [bytesV_length, bytesV_length, List.length_nil, Nat.zero_add] at g ⊢
    exact h A c w' g
/-- append of one act, in a region that draws. -/
theorem step_act {w0 w : World} {ops : Array Oper} {o : Oper} {a : Act} {K : Act → World → Prop} {Q : Exit → Act → World → Prop} {E : Prop} {B : List Res} (hgd : o.guard = none) (s x : Operand)
    (ho : o.op = .call { callee := .builtin .append, args := #[s, x], argTypes := #[94, 94] })
    (v : Value) (al : List RA) (n : Nat) (hn : al.length = n) (hs : a.eval s = v) (hh : Held w0 w (rAl v al :: B)) (ad : Addr) (c : Nat) (f : RA) (hx : a.eval x = .slice (some ad) 1 c) (hcell : ∀ j u, (arow f)[j]? = some u → w.cell? (ad.add j) = some u) (hb : n ≤ 1000000)
    (h : ∀ A c w', Held w0 w' (rAl (.slice A (n + 1) c) (al ++ [f]) :: B) → K (a.put o.dst (.slice A (n + 1) c)) w') : if Region.wanted o (yielded ops a.tmps) = true then Oper.wp Tryz.prog o a w K Q else E := by
  obtain ⟨iI, ii, iz, is, ib⟩ := info_parts Tryz.infoRAct
  refine step_append_row [] B hgd s x 94 ho 5 201 iI _ 64 Tryz.underlying94 ii iz is ib rfl (by decide) v (al.map arow) n (by rw [List.length_map]; exact hn) hs hh ad c (arow f) hx rfl hcell (arow_one f) (by omega) (by unfold maxLen; omega) ?_
  intro A c' w' _ _ g
  refine h A c' w' ?_
  unfold rAl
  rw [List.map_append]
  exact g

/-- one act more. -/
theorem ActsOk.snoc {ps ps' : List (Value × List UInt8)} {al : List RA} (h : ActsOk ps al) (hs : ∀ q ∈ ps, q ∈ ps') (a : RA) (ha : inBag ps' a.A a.len a.c) (hat : a.at_ = total al a.name) (hf : al.length + 1 ≤ 1000) (hm : total al a.name + a.len ≤ 50000000) : ActsOk ps' (al ++ [a]) := by
  refine ⟨fun k hk => ?_, fun x hx => ?_, by simpa using hf, fun n => ?_⟩
  · by_cases hkl : k < al.length
    · rw [List.getElem_append_left hkl, List.take_append_of_le_length (Nat.le_of_lt hkl)]
      exact h.at_ k hkl
    · have hke : k = al.length := by rw [List.length_append, List.length_singleton] at hk; omega
      subst hke
      simp only [List.getElem_append_right (Nat.le_refl _), Nat.sub_self, List.getElem_cons_zero, List.take_left']
      exact hat
  · rcases List.mem_append.1 hx with hx | hx
    · exact (h.bag x hx).up hs
    · rw [List.mem_singleton] at hx
      subst hx
      exact ha
  · rw [total_snoc]
    by_cases hn : a.name = n
    · rw [if_pos hn, ← hn]; exact hm
    · rw [if_neg hn]; exact h.small n
end Go.Proofs.YtdbhccehbjhbpaaGreatDoor
