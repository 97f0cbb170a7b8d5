/- disk: the laws' 'made'. -/
import Derived.Test.YtkednbkildkkmaaG2
namespace Go.Proofs.Ytkednbkildkkmaa
open Go.RowKit
open Disk

theorem u20_mod (k : Int) : ∃ n : Nat, wrap64 ((IntKind.u64.wrap k).tmod 1048576) = n ∧ n < 1048576 := by
  have h0 : IntKind.u64.wrap k = k % 18446744073709551616 := by unfold IntKind.wrap IntKind.bits IntKind.signed; simp
  refine ⟨(k % 1048576).toNat, ?_, by omega⟩
  rw [h0, Int.tmod_eq_emod_of_nonneg (by omega)]
  unfold wrap64
  omega
theorem calls_ok {d : Dk} (h : d.Ok) : ∀ l : List Do, (d.calls l).Ok := by
  intro l
  induction l generalizing d with
  | nil => exact h
  | cons k l ih => exact ih (h.call k)
theorem calls_pend {d : Dk} : ∀ l : List Do, (d.calls l).pending.length ≤ d.pending.length + l.length := by
  intro l
  induction l generalizing d with
  | nil => exact Nat.le_refl _
  | cons k l ih =>
    have h1 := ih (d := (d.call k).1)
    have h2 := call_pend d k
    show ((d.call k).1.calls l).pending.length ≤ _
    rw [List.length_cons]
    omega
theorem calls_succ {d : Dk} {l : List Do} {k : Nat} (hk : k < l.length) : d.calls (l.take (k + 1)) = ((d.calls (l.take k)).call l[k]).1 := by
  unfold Dk.calls
  rw [List.take_succ_eq_append_getElem hk, List.foldl_append]
  rfl
/-- the disk that calls make. -/
def diskOf (n : Nat) (l : List Do) : Dk := (Dk.empty n).calls l
theorem diskOf_ok {n : Nat} (h : n < 1048576) (l : List Do) : (diskOf n l).Ok := calls_ok (empty_ok (by omega)) l
theorem diskOf_pend (n : Nat) (l : List Do) : (diskOf n l).pending.length ≤ l.length := by
  have := calls_pend (d := Dk.empty n) l
  have h0 : (Dk.empty n).pending.length = 0 := rfl
  show ((Dk.empty n).calls l).pending.length ≤ _
  omega
theorem diskOf_succ {n : Nat} {l : List Do} {k : Nat} (hk : k < l.length) : diskOf n (l.take (k + 1)) = ((diskOf n (l.take k)).call l[k]).1 := calls_succ hk

theorem Held.dos {w0 w : World} {Rs : List Res} (h : Held w0 w Rs) {v : Value} {ds : List Do} (hd : Dos w0.heap.size w0 v ds) : Dos w0.heap.size w v ds := hd.keep fun b hb _ => h.mod.block b hb (fun h => h)
/-- one of the calls, whose words were there when the law began. -/
theorem DoAt.old {w0 w : World} {d : Do} {bA kA : Option Addr} {bc kc : Nat} {Rs : List Res} (hh : Held w0 w Rs) (h : DoAt w0.heap.size w d bA bc kA kc) (B : List Res) :
    Src w0 [] B (.slice bA d.b.length bc) (bytesV d.b) ∧ Src w0 [] B (.slice kA d.keep.length kc) (boolsV d.keep) := by
  have back : ∀ {v : Value} {xs : List Value}, Rd (· < w0.heap.size) w v xs → Rd (· < w0.heap.size) w0 v xs := fun h => h.keep fun b hb _ => (hh.mod.block b hb (fun h => h)).symm
  exact ⟨src_old (back h.b), src_old (back h.keep)⟩

def MadePost (w0 : World) (B : List Res) (ds : List Do) (e : Ending) (w' : World) : Prop :=
  ∃ (n p : Nat) (ok : Bool), n < 1048576 ∧ e = .returned (.tuple #[.pointer (some ⟨p, 0, none⟩), .bool ok]) ∧ (ok = true → ds.length ≤ 120 ∧ ∀ d ∈ ds, d.b.length ≤ 32768) ∧ Held w0 w' (rDisk p (diskOf n (if ok then ds else [])) :: B)
/-- made, where its size is told. -/
def MadeAt (w0 : World) (B : List Res) (ds : List Do) (n : Nat) (e : Ending) (w' : World) : Prop :=
  ∃ (p : Nat) (ok : Bool), e = .returned (.tuple #[.pointer (some ⟨p, 0, none⟩), .bool ok]) ∧ (ok = true → ds.length ≤ 120 ∧ ∀ d ∈ ds, d.b.length ≤ 32768) ∧ Held w0 w' (rDisk p (diskOf n (if ok then ds else [])) :: B)

set_option maxRecDepth 100000 in
set_option maxHeartbeats 2000000 in
theorem made_at {w0 w : World} {B : List Res} (h : Held w0 w B) (room : Int) {n : Nat} (hn : wrap64 ((IntKind.u64.wrap room).tmod 1048576) = n) (hnl : n < 1048576) (v : Value) (ds : List Do) (hd : Dos w0.heap.size w0 v ds) :
    Calls Try.prog 12 #[.int .i64 room, v] w (MadeAt w0 B ds n) := by
  obtain ⟨A, c, rfl, hc, hm⟩ := hd.form
  have HN := hid (new_held h n (by omega))
  have HD := hid hd
  have HB := hid (show Held w0 w B from h)
  have HO := hid (And.intro hn hnl)
  clear h hd
  go_enter Try.func12, Try.ntmps12
  go_wp2_with fail
  clear hn
  refine HN.out.mono ?_
  rintro e w1 ⟨p, rfl, g1⟩
  have HS := hid (short_any w0.heap.size w1 _ ds (g1.dos HD.out))
  have G1 := hid g1
  clear g1 HN
  go_wp2_with fail
  refine HS.out.mono ?_
  rintro e w2 ⟨r, rfl, hr, rfl⟩
  cases r with
  | false =>
    clear hr
    go_wp2_with fail
    go_ret2
    exact ⟨p, false, rfl, (fun h => by cases h), G1.out⟩
  | true =>
    obtain ⟨hlen, hbytes⟩ := hr rfl
    have HR := hid hbytes
    clear hr hbytes HS
    go_wp2_with fail
    go_loopw [28] (fun iv wr => ∃ k : Nat, k ≤ ds.length ∧ iv = .int .i64 k ∧ Held w0 wr (rDisk p (diskOf n (ds.take k)) :: B)) (fun iv _ => ds.length - (intOf iv).toNat)
    case atStart => exact ⟨0, Nat.zero_le _, rfl, G1.out⟩
    case round =>
      obtain ⟨k, hk, rfl, hh⟩ := hrel
      by_cases hlt : k < ds.length
      · obtain ⟨b, off, bA, bc, kA, kc, rfl, -, c0, c1, c2, c3, c4, hat⟩ := (hh.dos HD.out).at hlt
        have hp := diskOf_pend n (ds.take k)
        have htl : (ds.take k).length ≤ k := List.length_take_le _ _
        have hbl := HR.out ds[k] (List.getElem_mem hlt)
        obtain ⟨hsb, hsk⟩ := hat.old hh (rBlk wr.heap.size 35 #[.int .i64 ds[k].op, sv ds[k].name, .slice bA ds[k].b.length bc, .int .i64 ds[k].n, .slice kA ds[k].keep.length kc] :: B)
        have hg0 := (hh.block 35 #[.int .i64 ds[k].op, sv ds[k].name, .slice bA ds[k].b.length bc, .int .i64 ds[k].n, .slice kA ds[k].keep.length kc]).pull1
        have CC := hid (does_held hg0 (diskOf_ok HO.out.2 _) (by omega) ds[k] hat.wf bA kA bc kc hsb hsk (by omega))
        rw [← diskOf_succ hlt] at CC
        clear hh hat hp htl hbl hsb hsk hg0
        obtain ⟨kd, hkd⟩ : ∃ kd, kd = ds[k] := ⟨_, rfl⟩
        rw [← hkd] at c0 c1 c2 c3 c4 CC
        clear hkd
        unfold sv at c1 CC
        go_wp2_with fail
        refine CC.out.mono ?_
        rintro e w3 ⟨rfl, g3⟩
        have G3 := hid (Held.drop0 (Held.pull1 g3))
        clear g3
        go_wp2_with fail
        exact ⟨⟨k + 1, by omega, by simp, G3.out⟩, by show ds.length - ((k : Int) + 1).toNat < ds.length - (k : Int).toNat; omega⟩
      · have hfull : ds.take k = ds := List.take_of_length_le (by omega)
        rw [hfull] at hh
        have HH := hid hh
        have HF := hid (And.intro hlen HR.out)
        clear hh hfull
        go_wp2_with fail
        go_ret2
        exact ⟨p, true, rfl, fun _ => HF.out, HH.out⟩
theorem made_held {w0 w : World} {B : List Res} (h : Held w0 w B) (room : Int) (v : Value) (ds : List Do) (hd : Dos w0.heap.size w0 v ds) :
    Calls Try.prog 12 #[.int .i64 room, v] w (MadePost w0 B ds) := by
  obtain ⟨n, hn, hl⟩ := u20_mod room
  exact (made_at h room hn hl v ds hd).mono fun e w' ⟨p, ok, he, h1, h2⟩ => ⟨n, p, ok, hl, he, h1, h2⟩
end Go.Proofs.Ytkednbkildkkmaa
