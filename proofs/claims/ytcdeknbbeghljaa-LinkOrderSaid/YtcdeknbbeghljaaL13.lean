/- LinkOrder: the walk. -/
import Derived.Test.YtcdeknbbeghljaaL11
import Derived.Test.YtcdeknbbeghljaaL12
import Derived.Deep.CutBlock
import Derived.Deep.DeepCutAuto
import Derived.Deep.RegionLaw
import Derived.BigQuiet
namespace Go.Proofs.Ytcdeknbbeghljaa
open Go.RowKit
open Link

theorem umod_lit (k : Int) (m : Nat) (hm : 0 < m) (h2 : m ≤ 1000) : ∃ o : Nat, wrap64 ((IntKind.u64.wrap k).tmod (m : Int)) = o ∧ o < m := by
  have h0 : 0 ≤ IntKind.u64.wrap k := by unfold IntKind.wrap IntKind.bits IntKind.signed; simp; omega
  have h1 : 0 ≤ (IntKind.u64.wrap k).tmod (m : Int) := Int.tmod_nonneg _ h0
  have h3 : (IntKind.u64.wrap k).tmod (m : Int) < (m : Int) := Int.tmod_lt_of_pos _ (by omega)
  refine ⟨((IntKind.u64.wrap k).tmod (m : Int)).toNat, ?_, by omega⟩
  rw [Int.toNat_of_nonneg h1]
  unfold wrap64
  omega

theorem quiet_add {P : Program} {f : FuncId} {args : Array Value} {w : World} {k n : Nat} {v : Value}
    (h : Calls P f args (w.drewN (k + n)) fun e w' => e = .returned v ∧ ∃ m, w' = (w.drewN (k + n)).drewN m) : Calls P f args (w.drewN (k + n)) fun e w'' => e = .returned v ∧ ∃ m, w'' = w.drewN (k + m) :=
  h.mono fun _ _ ⟨he, m, hm⟩ => ⟨he, n + m, by rw [hm, World.drewN_drewN, Nat.add_assoc]⟩

def ordList (bs bc p : Nat) (n : Net) (s0 s1 c0 c1 : List UInt8) (sv0 sv1 cv0 cv1 : Value) : List Res :=
  [rBlk bs 31 #[sv0, sv1], rBlk bc 31 #[cv0, cv1], rNet p n, rBytes sv0 s0, rBytes sv1 s1, rBytes cv0 c0, rBytes cv1 c1]

def OrdAt (w0 : World) (bs bc p : Nat) (ds : List Do) (k : Nat) (w : World) : Prop :=
  ∃ n s0 s1 c0 c1 sv0 sv1 cv0 cv1, Ord n s0 s1 c0 c1 ∧ n.last ≤ 1 + k ∧ s0.length + s1.length ≤ dlen ds k ∧ Held w0 w (ordList bs bc p n s0 s1 c0 c1 sv0 sv1 cv0 cv1)

theorem OrdAt.mk {w0 w : World} {bs bc p : Nat} {ds : List Do} {k : Nat} {n : Net} {s0 s1 c0 c1 : List UInt8} {sv0 sv1 cv0 cv1 : Value} (h1 : Ord n s0 s1 c0 c1) (h2 : n.last ≤ 1 + k) (h3 : s0.length + s1.length ≤ dlen ds k) (R : Res) (h4 : Held w0 w (R :: ordList bs bc p n s0 s1 c0 c1 sv0 sv1 cv0 cv1)) : OrdAt w0 bs bc p ds k w :=
  ⟨n, s0, s1, c0, c1, sv0, sv1, cv0, cv1, h1, h2, h3, Held.drop (l1 := []) h4⟩

theorem bytes_slice {A : Option Addr} {c : Nat} {l m : List UInt8} : rOwn 5 (.slice A ((bytesV l).length + (bytesV m).length) c) (bytesV l ++ bytesV m) = rBytes (.slice A ((bytesV l).length + (bytesV m).length) c) (l ++ m) := by
  unfold rBytes; rw [bytesV_append]

set_option maxRecDepth 100000 in
set_option maxHeartbeats 40000000 in
theorem order_walk (w : World) (v : Value) (ds : List Do) (h : Dos w.heap.size w v ds) :
    Calls Try.prog 3 #[v] w fun e w' => e = .returned (.bool true) ∧ Below w.heap.size w w' := by
  obtain ⟨A, c, rfl, hc, hm⟩ := h.form
  have HW := hid (awake_any w)
  have HS := hid (short_any w.heap.size w _ ds h)
  have HD := hid h
  have H0 := hid (Held.begin w)
  obtain ⟨i0, hi, hz0, hz1, hz2⟩ := info_parts Try.info5
  have HI := hid (And.intro hi (And.intro hz0 (And.intro hz1 hz2)))
  clear h hi hz0 hz1 hz2
  go_enter Try.func3, Try.ntmps3
  go_wp2_with fail
  refine HS.out.mono ?_
  rintro e w' ⟨r, rfl, hr, rfl⟩
  cases r with
  | false =>
    clear hr
    go_wp2_with (first
      | (go_at_call 11; refine HW.out.mono ?_; rintro e w' ⟨rfl, hm⟩))
    go_ret
    exact ⟨rfl, hm.below (Nat.le_refl _) (fun _ _ h => h)⟩
  | true =>
    obtain ⟨hlen, hbytes⟩ := hr rfl
    clear hr
    go_wp2_with fail
    refine (new_held H0.out).mono ?_
    rintro e w1 ⟨p, rfl, g1⟩
    have H1 := hid (dial_held [] [] g1 empty_ok (by decide) 0 1)
    rw [dial_one (by decide) (by decide) (by decide) (by decide) (by decide)] at H1
    clear g1
    go_wp2_with fail
    refine H1.out.mono ?_
    rintro e w2 ⟨rfl, g2⟩
    have H2 := hid g2
    clear g2
    go_wp2_with fail
    have HB : OrdAt w w2.heap.size (w2.heap.size + 1) p ds 0 ((w2.alloc (.cells #[.slice none 0 0, .slice none 0 0] 31)).alloc (.cells #[.slice none 0 0, .slice none 0 0] 31)) := by
      have h1 := ((H2.out.block 31 #[.slice none 0 0, .slice none 0 0]).block 31 #[.slice none 0 0, .slice none 0 0])
      rw [World.size_alloc] at h1
      have hn : ∀ W : World, (rBytes (.slice none 0 0) []).holds W [] := fun W => own_bytes (l := []) (Own.nil _ _ _)
      have h2 := (((h1.more (hn _) (Upd.refl _ (by simp))).more (hn _) (Upd.refl _ (by simp))).more (hn _) (Upd.refl _ (by simp))).more (hn _) (Upd.refl _ (by simp))
      exact ⟨_, [], [], [], [], _, _, _, _, ord_begin, by simp [oneNet], by simp, h2.perm (by
        refine (List.perm_append_comm (l₁ := [rBytes (.slice none 0 0) [], rBytes (.slice none 0 0) [], rBytes (.slice none 0 0) [], rBytes (.slice none 0 0) []])).trans ?_
        exact List.Perm.swap _ _ _)⟩
    have HB' := hid HB
    clear HB
    go_loopw [31] (fun i wr => ∃ k : Nat, k ≤ ds.length ∧ i = .int .i64 k ∧ OrdAt w w2.heap.size (w2.heap.size + 1) p ds k wr) (fun i _ => ds.length - (intOf i).toNat)
    case atStart => exact ⟨0, Nat.zero_le _, rfl, HB'.out⟩
    case round =>
      obtain ⟨k, hk, rfl, hO⟩ := hrel
      by_cases hlt : k < ds.length
      · obtain ⟨n, s0, s1, c0, c1, sv0, sv1, cv0, cv1, ho, hl, hsum, hh⟩ := hO
        have hd := (HD.out.keep (w' := wr) (fun b hb _ => hh.mod.block b hb (fun h => h))).at hlt
        obtain ⟨b, off, bA, bc, rfl, hbb, e0, e1, e2, e3, e4, hr, hwf⟩ := hd
        have hdl := dlen_succ ds k hlt
        have hdm := dlen_mono ds (show k + 1 ≤ ds.length by omega)
        have HH := hid (And.intro ho (And.intro hl (And.intro hsum (And.intro hh (And.intro hr (And.intro hdl (And.intro hdm hwf)))))))
        clear ho hl hsum hh hr hdl hdm hwf
        go_upto_block 2 with (fail)
        obtain ⟨o, hom, ho8⟩ := umod_lit ds[k].op 8 (by decide) (by decide)
        obtain ⟨m, hmm, hm2⟩ := umod_lit ds[k].a 2 (by decide) (by decide)
        simp only [Int.cast_ofNat_Int] at hom hmm
        rw [hom, hmm]
        clear hom hmm
        go_cut [10] (fun _ wc => OrdAt w w2.heap.size (w2.heap.size + 1) p ds (k + 1) wc)
        case first =>
          obtain ⟨ho, hl, hsum, hh, hr, hdl, hdm, hwf⟩ := HH.out
          generalize hdk : ds[k] = d at *
          clear hdk
          have g0 := hh.block 33 #[.int .i64 d.op, .int .i64 d.id, .int .i64 d.a, .int .i64 d.b, .slice bA d.bytes.length bc]
          have kb : wr.heap.size = wr.heap.size := rfl
          have hr0 := hr.alloc (.cells #[.int .i64 d.op, .int .i64 d.id, .int .i64 d.a, .int .i64 d.b, .slice bA d.bytes.length bc] 33)
          have GG := hid (And.intro ho (And.intro hl (And.intro hsum (And.intro g0 (And.intro hr0 (And.intro hdl (And.intro hdm hwf)))))))
          clear ho hl hsum hh hr hdl hdm hwf g0 hr0 kb HH
          have hov : o = 0 ∨ o = 1 ∨ o = 2 ∨ o = 3 ∨ o = 4 ∨ o = 5 ∨ o = 6 ∨ o = 7 := by omega
          have hmv : m = 0 ∨ m = 1 := by omega
          clear ho8 hm2
          rcases hov with rfl | rfl | rfl | rfl | rfl | rfl | rfl | rfl
          · -- Dial
            obtain ⟨ho, hl, hsum, g0, hr0, hdl, hdm, hwf⟩ := GG.out
            clear hmv
            go_wp2_with fail
            refine (dial_held [rBlk wr.heap.size 33 #[.int .i64 d.op, .int .i64 d.id, .int .i64 d.a, .int .i64 d.b, .slice bA d.bytes.length bc], rBlk w2.heap.size 31 #[sv0, sv1], rBlk (w2.heap.size + 1) 31 #[cv0, cv1]] [rBytes sv0 s0, rBytes sv1 s1, rBytes cv0 c0, rBytes cv1 c1] g0 ho.ok (by omega) d.a d.b).mono ?_
            rintro e w3 ⟨rfl, g3⟩
            have hq := dial_last n d.a d.b
            have HQ := hid (OrdAt.mk (ds := ds) (k := k + 1) (ho.dial d.a d.b) (by omega) (by omega) _ g3)
            clear hq ho hl hsum g0 hr0 hdl hdm hwf g3
            go_wp2
            go_meet
            case rel => exact HQ.out
          · -- Send
            rcases hmv with rfl | rfl
            · obtain ⟨ho, hl, hsum, g0, hr0, hdl, hdm, hwf⟩ := GG.out
              go_wp2_with fail
              refine (send_held [rBlk wr.heap.size 33 #[.int .i64 d.op, .int .i64 d.id, .int .i64 d.a, .int .i64 d.b, .slice bA d.bytes.length bc], rBlk w2.heap.size 31 #[sv0, sv1], rBlk (w2.heap.size + 1) 31 #[cv0, cv1]] [rBytes sv0 s0, rBytes sv1 s1, rBytes cv0 c0, rBytes cv1 c1] (· < w.heap.size) g0 ho.ok (by omega) 1 0 wf1 _ d.bytes hr0).mono ?_
              rintro e w3 ⟨rfl, g3⟩
              have hq := ho.send0 d.bytes
              have hll := send_last n 1 0 d.bytes
              have hr3 : Rd (· < w.heap.size) w3 (.slice bA d.bytes.length bc) (bytesV d.bytes) := by
                obtain ⟨_, _, _, hm0⟩ := And.intro g0 g3.mod
                exact hr0.keep (fun b hb _ => (g3.mod.block b hb (fun h => h)).trans (g0.mod.block b hb (fun h => h)).symm)
              by_cases hz : (n.send 1 0 d.bytes).2 = 0
              · have hok := hq.1 hz
                have hz' : ((n.send 1 0 d.bytes).2 == 0) = true := by rw [hz]; rfl
                have hc1 : w3.cell? ⟨w2.heap.size, 0, none⟩ = some sv0 := (Held.blk (l1 := [rBlk wr.heap.size 33 #[.int .i64 d.op, .int .i64 d.id, .int .i64 d.a, .int .i64 d.b, .slice bA d.bytes.length bc]]) g3).cell rfl
                have hc2 : w3.cell? ⟨wr.heap.size, 4, none⟩ = some (.slice bA d.bytes.length bc) := (Held.blk (l1 := []) g3).cell rfl
                have hf1 := (Held.blk (l1 := [rBlk wr.heap.size 33 #[.int .i64 d.op, .int .i64 d.id, .int .i64 d.a, .int .i64 d.b, .slice bA d.bytes.length bc]]) g3).frozen 0
                have HQ := hid (And.intro g3 (And.intro hr3 (And.intro hok (And.intro hll (And.intro hl (And.intro hsum (And.intro hdl hdm)))))))
                clear hq ho hl hsum g0 hr0 hdl hdm hwf g3 hr3 hok hll hz
                go_wp2
                go_region_law (refine step_append_held (w0 := w) [rBlk wr.heap.size 33 #[.int .i64 d.op, .int .i64 d.id, .int .i64 d.a, .int .i64 d.b, .slice bA d.bytes.length bc], rBlk w2.heap.size 31 #[sv0, sv1], rBlk (w2.heap.size + 1) 31 #[cv0, cv1], rNet p (n.send 1 0 d.bytes).1] [rBytes sv1 s1, rBytes cv0 c0, rBytes cv1 c1] rfl (.tmp 66) (.tmp 68) 30 rfl 5 i0 (.int .u8 0) 1 Try.underlying30 HI.out.1 HI.out.2.1 HI.out.2.2.1 HI.out.2.2.2 rfl sv0 (bytesV s0) rfl (HQ.out.1.step ((Mod.refl _ _).drew)) (· < w.heap.size) (.slice bA d.bytes.length bc) (bytesV d.bytes) rfl HQ.out.2.1.drew (bytesV_one _) (by have := HQ.out; rw [bytesV_length, bytesV_length]; omega) (by have := HQ.out; rw [bytesV_length, bytesV_length]; unfold maxLen; omega) ?_; intro A' c' w4 q1 q2 g4; have hc4 : w4.cell? ⟨w2.heap.size, 0, none⟩ = some sv0 := (Held.blk (l1 := [rBlk wr.heap.size 33 #[.int .i64 d.op, .int .i64 d.id, .int .i64 d.a, .int .i64 d.b, .slice bA d.bytes.length bc]]) g4).cell rfl; have hf4 := (Held.blk (l1 := [rBlk wr.heap.size 33 #[.int .i64 d.op, .int .i64 d.id, .int .i64 d.a, .int .i64 d.b, .slice bA d.bytes.length bc]]) g4).frozen 0; have H4 := hid g4; clear g4)
                all_goals
                  go_wp2
                  go_meet
                  case rel =>
                    obtain ⟨-, -, hok, hll, hl, hsum, hdl, hdm⟩ := HQ.out
                    have g5 := Held.store (l1 := [rBlk wr.heap.size 33 #[.int .i64 d.op, .int .i64 d.id, .int .i64 d.a, .int .i64 d.b, .slice bA d.bytes.length bc]]) H4.out 0 (.slice A' ((bytesV s0).length + (bytesV d.bytes).length) c')
                    rw [bytes_slice] at g5
                    exact OrdAt.mk (ds := ds) (k := k + 1) hok (by omega) (by simp only [List.length_append]; omega) _ g5
              · have hok := hq.2 hz
                have hz' : ((n.send 1 0 d.bytes).2 == 0) = false := by simpa using hz
                have HQ := hid (OrdAt.mk (ds := ds) (k := k + 1) (by rw [hok]; exact ho) (by omega) (by omega) _ g3)
                clear hq ho hl hsum g0 hr0 hdl hdm hwf g3 hok hr3 hz hll
                go_wp2
                go_meet
                case rel => exact HQ.out
            · obtain ⟨ho, hl, hsum, g0, hr0, hdl, hdm, hwf⟩ := GG.out
              go_wp2_with fail
              refine (send_held [rBlk wr.heap.size 33 #[.int .i64 d.op, .int .i64 d.id, .int .i64 d.a, .int .i64 d.b, .slice bA d.bytes.length bc], rBlk w2.heap.size 31 #[sv0, sv1], rBlk (w2.heap.size + 1) 31 #[cv0, cv1]] [rBytes sv0 s0, rBytes sv1 s1, rBytes cv0 c0, rBytes cv1 c1] (· < w.heap.size) g0 ho.ok (by omega) 1 1 wf1 _ d.bytes hr0).mono ?_
              rintro e w3 ⟨rfl, g3⟩
              have hq := ho.send1 d.bytes
              have hll := send_last n 1 1 d.bytes
              have hr3 : Rd (· < w.heap.size) w3 (.slice bA d.bytes.length bc) (bytesV d.bytes) := by
                obtain ⟨_, _, _, hm0⟩ := And.intro g0 g3.mod
                exact hr0.keep (fun b hb _ => (g3.mod.block b hb (fun h => h)).trans (g0.mod.block b hb (fun h => h)).symm)
              by_cases hz : (n.send 1 1 d.bytes).2 = 0
              · have hok := hq.1 hz
                have hz' : ((n.send 1 1 d.bytes).2 == 0) = true := by rw [hz]; rfl
                have hc1 : w3.cell? ⟨w2.heap.size, 1, none⟩ = some sv1 := (Held.blk (l1 := [rBlk wr.heap.size 33 #[.int .i64 d.op, .int .i64 d.id, .int .i64 d.a, .int .i64 d.b, .slice bA d.bytes.length bc]]) g3).cell rfl
                have hc2 : w3.cell? ⟨wr.heap.size, 4, none⟩ = some (.slice bA d.bytes.length bc) := (Held.blk (l1 := []) g3).cell rfl
                have hf1 := (Held.blk (l1 := [rBlk wr.heap.size 33 #[.int .i64 d.op, .int .i64 d.id, .int .i64 d.a, .int .i64 d.b, .slice bA d.bytes.length bc]]) g3).frozen 1
                have HQ := hid (And.intro g3 (And.intro hr3 (And.intro hok (And.intro hll (And.intro hl (And.intro hsum (And.intro hdl hdm)))))))
                clear hq ho hl hsum g0 hr0 hdl hdm hwf g3 hr3 hok hll hz
                go_wp2
                go_region_law (refine step_append_held (w0 := w) [rBlk wr.heap.size 33 #[.int .i64 d.op, .int .i64 d.id, .int .i64 d.a, .int .i64 d.b, .slice bA d.bytes.length bc], rBlk w2.heap.size 31 #[sv0, sv1], rBlk (w2.heap.size + 1) 31 #[cv0, cv1], rNet p (n.send 1 1 d.bytes).1, rBytes sv0 s0] [rBytes cv0 c0, rBytes cv1 c1] rfl (.tmp 66) (.tmp 68) 30 rfl 5 i0 (.int .u8 0) 1 Try.underlying30 HI.out.1 HI.out.2.1 HI.out.2.2.1 HI.out.2.2.2 rfl sv1 (bytesV s1) rfl (HQ.out.1.step ((Mod.refl _ _).drew)) (· < w.heap.size) (.slice bA d.bytes.length bc) (bytesV d.bytes) rfl HQ.out.2.1.drew (bytesV_one _) (by have := HQ.out; rw [bytesV_length, bytesV_length]; omega) (by have := HQ.out; rw [bytesV_length, bytesV_length]; unfold maxLen; omega) ?_; intro A' c' w4 q1 q2 g4; have hc4 : w4.cell? ⟨w2.heap.size, 1, none⟩ = some sv1 := (Held.blk (l1 := [rBlk wr.heap.size 33 #[.int .i64 d.op, .int .i64 d.id, .int .i64 d.a, .int .i64 d.b, .slice bA d.bytes.length bc]]) g4).cell rfl; have hf4 := (Held.blk (l1 := [rBlk wr.heap.size 33 #[.int .i64 d.op, .int .i64 d.id, .int .i64 d.a, .int .i64 d.b, .slice bA d.bytes.length bc]]) g4).frozen 1; have H4 := hid g4; clear g4)
                all_goals
                  go_wp2
                  go_meet
                  case rel =>
                    obtain ⟨-, -, hok, hll, hl, hsum, hdl, hdm⟩ := HQ.out
                    have g5 := Held.store (l1 := [rBlk wr.heap.size 33 #[.int .i64 d.op, .int .i64 d.id, .int .i64 d.a, .int .i64 d.b, .slice bA d.bytes.length bc]]) H4.out 1 (.slice A' ((bytesV s1).length + (bytesV d.bytes).length) c')
                    rw [bytes_slice] at g5
                    exact OrdAt.mk (ds := ds) (k := k + 1) hok (by omega) (by simp only [List.length_append]; omega) _ g5
              · have hok := hq.2 hz
                have hz' : ((n.send 1 1 d.bytes).2 == 0) = false := by simpa using hz
                have HQ := hid (OrdAt.mk (ds := ds) (k := k + 1) (by rw [hok]; exact ho) (by omega) (by omega) _ g3)
                clear hq ho hl hsum g0 hr0 hdl hdm hwf g3 hok hr3 hz hll
                go_wp2
                go_meet
                case rel => exact HQ.out
          · -- Send
            rcases hmv with rfl | rfl
            · obtain ⟨ho, hl, hsum, g0, hr0, hdl, hdm, hwf⟩ := GG.out
              go_wp2_with fail
              refine (send_held [rBlk wr.heap.size 33 #[.int .i64 d.op, .int .i64 d.id, .int .i64 d.a, .int .i64 d.b, .slice bA d.bytes.length bc], rBlk w2.heap.size 31 #[sv0, sv1], rBlk (w2.heap.size + 1) 31 #[cv0, cv1]] [rBytes sv0 s0, rBytes sv1 s1, rBytes cv0 c0, rBytes cv1 c1] (· < w.heap.size) g0 ho.ok (by omega) 1 0 wf1 _ d.bytes hr0).mono ?_
              rintro e w3 ⟨rfl, g3⟩
              have hq := ho.send0 d.bytes
              have hll := send_last n 1 0 d.bytes
              have hr3 : Rd (· < w.heap.size) w3 (.slice bA d.bytes.length bc) (bytesV d.bytes) := by
                obtain ⟨_, _, _, hm0⟩ := And.intro g0 g3.mod
                exact hr0.keep (fun b hb _ => (g3.mod.block b hb (fun h => h)).trans (g0.mod.block b hb (fun h => h)).symm)
              by_cases hz : (n.send 1 0 d.bytes).2 = 0
              · have hok := hq.1 hz
                have hz' : ((n.send 1 0 d.bytes).2 == 0) = true := by rw [hz]; rfl
                have hc1 : w3.cell? ⟨w2.heap.size, 0, none⟩ = some sv0 := (Held.blk (l1 := [rBlk wr.heap.size 33 #[.int .i64 d.op, .int .i64 d.id, .int .i64 d.a, .int .i64 d.b, .slice bA d.bytes.length bc]]) g3).cell rfl
                have hc2 : w3.cell? ⟨wr.heap.size, 4, none⟩ = some (.slice bA d.bytes.length bc) := (Held.blk (l1 := []) g3).cell rfl
                have hf1 := (Held.blk (l1 := [rBlk wr.heap.size 33 #[.int .i64 d.op, .int .i64 d.id, .int .i64 d.a, .int .i64 d.b, .slice bA d.bytes.length bc]]) g3).frozen 0
                have HQ := hid (And.intro g3 (And.intro hr3 (And.intro hok (And.intro hll (And.intro hl (And.intro hsum (And.intro hdl hdm)))))))
                clear hq ho hl hsum g0 hr0 hdl hdm hwf g3 hr3 hok hll hz
                go_wp2
                go_region_law (refine step_append_held (w0 := w) [rBlk wr.heap.size 33 #[.int .i64 d.op, .int .i64 d.id, .int .i64 d.a, .int .i64 d.b, .slice bA d.bytes.length bc], rBlk w2.heap.size 31 #[sv0, sv1], rBlk (w2.heap.size + 1) 31 #[cv0, cv1], rNet p (n.send 1 0 d.bytes).1] [rBytes sv1 s1, rBytes cv0 c0, rBytes cv1 c1] rfl (.tmp 66) (.tmp 68) 30 rfl 5 i0 (.int .u8 0) 1 Try.underlying30 HI.out.1 HI.out.2.1 HI.out.2.2.1 HI.out.2.2.2 rfl sv0 (bytesV s0) rfl (HQ.out.1.step ((Mod.refl _ _).drew)) (· < w.heap.size) (.slice bA d.bytes.length bc) (bytesV d.bytes) rfl HQ.out.2.1.drew (bytesV_one _) (by have := HQ.out; rw [bytesV_length, bytesV_length]; omega) (by have := HQ.out; rw [bytesV_length, bytesV_length]; unfold maxLen; omega) ?_; intro A' c' w4 q1 q2 g4; have hc4 : w4.cell? ⟨w2.heap.size, 0, none⟩ = some sv0 := (Held.blk (l1 := [rBlk wr.heap.size 33 #[.int .i64 d.op, .int .i64 d.id, .int .i64 d.a, .int .i64 d.b, .slice bA d.bytes.length bc]]) g4).cell rfl; have hf4 := (Held.blk (l1 := [rBlk wr.heap.size 33 #[.int .i64 d.op, .int .i64 d.id, .int .i64 d.a, .int .i64 d.b, .slice bA d.bytes.length bc]]) g4).frozen 0; have H4 := hid g4; clear g4)
                all_goals
                  go_wp2
                  go_meet
                  case rel =>
                    obtain ⟨-, -, hok, hll, hl, hsum, hdl, hdm⟩ := HQ.out
                    have g5 := Held.store (l1 := [rBlk wr.heap.size 33 #[.int .i64 d.op, .int .i64 d.id, .int .i64 d.a, .int .i64 d.b, .slice bA d.bytes.length bc]]) H4.out 0 (.slice A' ((bytesV s0).length + (bytesV d.bytes).length) c')
                    rw [bytes_slice] at g5
                    exact OrdAt.mk (ds := ds) (k := k + 1) hok (by omega) (by simp only [List.length_append]; omega) _ g5
              · have hok := hq.2 hz
                have hz' : ((n.send 1 0 d.bytes).2 == 0) = false := by simpa using hz
                have HQ := hid (OrdAt.mk (ds := ds) (k := k + 1) (by rw [hok]; exact ho) (by omega) (by omega) _ g3)
                clear hq ho hl hsum g0 hr0 hdl hdm hwf g3 hok hr3 hz hll
                go_wp2
                go_meet
                case rel => exact HQ.out
            · obtain ⟨ho, hl, hsum, g0, hr0, hdl, hdm, hwf⟩ := GG.out
              go_wp2_with fail
              refine (send_held [rBlk wr.heap.size 33 #[.int .i64 d.op, .int .i64 d.id, .int .i64 d.a, .int .i64 d.b, .slice bA d.bytes.length bc], rBlk w2.heap.size 31 #[sv0, sv1], rBlk (w2.heap.size + 1) 31 #[cv0, cv1]] [rBytes sv0 s0, rBytes sv1 s1, rBytes cv0 c0, rBytes cv1 c1] (· < w.heap.size) g0 ho.ok (by omega) 1 1 wf1 _ d.bytes hr0).mono ?_
              rintro e w3 ⟨rfl, g3⟩
              have hq := ho.send1 d.bytes
              have hll := send_last n 1 1 d.bytes
              have hr3 : Rd (· < w.heap.size) w3 (.slice bA d.bytes.length bc) (bytesV d.bytes) := by
                obtain ⟨_, _, _, hm0⟩ := And.intro g0 g3.mod
                exact hr0.keep (fun b hb _ => (g3.mod.block b hb (fun h => h)).trans (g0.mod.block b hb (fun h => h)).symm)
              by_cases hz : (n.send 1 1 d.bytes).2 = 0
              · have hok := hq.1 hz
                have hz' : ((n.send 1 1 d.bytes).2 == 0) = true := by rw [hz]; rfl
                have hc1 : w3.cell? ⟨w2.heap.size, 1, none⟩ = some sv1 := (Held.blk (l1 := [rBlk wr.heap.size 33 #[.int .i64 d.op, .int .i64 d.id, .int .i64 d.a, .int .i64 d.b, .slice bA d.bytes.length bc]]) g3).cell rfl
                have hc2 : w3.cell? ⟨wr.heap.size, 4, none⟩ = some (.slice bA d.bytes.length bc) := (Held.blk (l1 := []) g3).cell rfl
                have hf1 := (Held.blk (l1 := [rBlk wr.heap.size 33 #[.int .i64 d.op, .int .i64 d.id, .int .i64 d.a, .int .i64 d.b, .slice bA d.bytes.length bc]]) g3).frozen 1
                have HQ := hid (And.intro g3 (And.intro hr3 (And.intro hok (And.intro hll (And.intro hl (And.intro hsum (And.intro hdl hdm)))))))
                clear hq ho hl hsum g0 hr0 hdl hdm hwf g3 hr3 hok hll hz
                go_wp2
                go_region_law (refine step_append_held (w0 := w) [rBlk wr.heap.size 33 #[.int .i64 d.op, .int .i64 d.id, .int .i64 d.a, .int .i64 d.b, .slice bA d.bytes.length bc], rBlk w2.heap.size 31 #[sv0, sv1], rBlk (w2.heap.size + 1) 31 #[cv0, cv1], rNet p (n.send 1 1 d.bytes).1, rBytes sv0 s0] [rBytes cv0 c0, rBytes cv1 c1] rfl (.tmp 66) (.tmp 68) 30 rfl 5 i0 (.int .u8 0) 1 Try.underlying30 HI.out.1 HI.out.2.1 HI.out.2.2.1 HI.out.2.2.2 rfl sv1 (bytesV s1) rfl (HQ.out.1.step ((Mod.refl _ _).drew)) (· < w.heap.size) (.slice bA d.bytes.length bc) (bytesV d.bytes) rfl HQ.out.2.1.drew (bytesV_one _) (by have := HQ.out; rw [bytesV_length, bytesV_length]; omega) (by have := HQ.out; rw [bytesV_length, bytesV_length]; unfold maxLen; omega) ?_; intro A' c' w4 q1 q2 g4; have hc4 : w4.cell? ⟨w2.heap.size, 1, none⟩ = some sv1 := (Held.blk (l1 := [rBlk wr.heap.size 33 #[.int .i64 d.op, .int .i64 d.id, .int .i64 d.a, .int .i64 d.b, .slice bA d.bytes.length bc]]) g4).cell rfl; have hf4 := (Held.blk (l1 := [rBlk wr.heap.size 33 #[.int .i64 d.op, .int .i64 d.id, .int .i64 d.a, .int .i64 d.b, .slice bA d.bytes.length bc]]) g4).frozen 1; have H4 := hid g4; clear g4)
                all_goals
                  go_wp2
                  go_meet
                  case rel =>
                    obtain ⟨-, -, hok, hll, hl, hsum, hdl, hdm⟩ := HQ.out
                    have g5 := Held.store (l1 := [rBlk wr.heap.size 33 #[.int .i64 d.op, .int .i64 d.id, .int .i64 d.a, .int .i64 d.b, .slice bA d.bytes.length bc]]) H4.out 1 (.slice A' ((bytesV s1).length + (bytesV d.bytes).length) c')
                    rw [bytes_slice] at g5
                    exact OrdAt.mk (ds := ds) (k := k + 1) hok (by omega) (by simp only [List.length_append]; omega) _ g5
              · have hok := hq.2 hz
                have hz' : ((n.send 1 1 d.bytes).2 == 0) = false := by simpa using hz
                have HQ := hid (OrdAt.mk (ds := ds) (k := k + 1) (by rw [hok]; exact ho) (by omega) (by omega) _ g3)
                clear hq ho hl hsum g0 hr0 hdl hdm hwf g3 hok hr3 hz hll
                go_wp2
                go_meet
                case rel => exact HQ.out
          · -- Carry
            rcases hmv with rfl | rfl
            · obtain ⟨ho, hl, hsum, g0, hr0, hdl, hdm, hwf⟩ := GG.out
              go_wp2_with fail
              refine (carry_held [rBlk wr.heap.size 33 #[.int .i64 d.op, .int .i64 d.id, .int .i64 d.a, .int .i64 d.b, .slice bA d.bytes.length bc], rBlk w2.heap.size 31 #[sv0, sv1], rBlk (w2.heap.size + 1) 31 #[cv0, cv1]] [rBytes sv0 s0, rBytes sv1 s1, rBytes cv0 c0, rBytes cv1 c1] g0 ho.ok (by omega) 1 0 d.b wf1).mono ?_
              rintro e w3 ⟨vo, rfl, g3⟩
              have hq := ho.carry0 d.b
              have hll := carry_last n 1 0 d.b
              have hc1 : w3.cell? ⟨w2.heap.size + 1, 1, none⟩ = some cv1 := (Held.blk (l1 := [rBlk wr.heap.size 33 #[.int .i64 d.op, .int .i64 d.id, .int .i64 d.a, .int .i64 d.b, .slice bA d.bytes.length bc], rBlk w2.heap.size 31 #[sv0, sv1]]) g3).cell rfl
              have hr3 := Held.bytes (l1 := [rBlk wr.heap.size 33 #[.int .i64 d.op, .int .i64 d.id, .int .i64 d.a, .int .i64 d.b, .slice bA d.bytes.length bc], rBlk w2.heap.size 31 #[sv0, sv1], rBlk (w2.heap.size + 1) 31 #[cv0, cv1]]) g3
              have hbg := hq.begins
              rw [List.length_append] at hbg
              have HQ := hid (And.intro g3 (And.intro hr3 (And.intro hq (And.intro hll (And.intro hl (And.intro hsum (And.intro hdl (And.intro hdm hbg))))))))
              clear ho hl hsum g0 hr0 hdl hdm hwf g3 hr3 hq hll hbg
              go_wp2_with (at_builtin; refine wpList_append_held (w0 := w) [rBlk wr.heap.size 33 #[.int .i64 d.op, .int .i64 d.id, .int .i64 d.a, .int .i64 d.b, .slice bA d.bytes.length bc], rBlk w2.heap.size 31 #[sv0, sv1], rBlk (w2.heap.size + 1) 31 #[cv0, cv1], rBytes vo (n.carry 1 0 d.b).2.1, rNet p (n.carry 1 0 d.b).1, rBytes sv0 s0, rBytes sv1 s1, rBytes cv0 c0] [] rfl _ _ 30 rfl 5 i0 (.int .u8 0) 1 Try.underlying30 HI.out.1 HI.out.2.1 HI.out.2.2.1 HI.out.2.2.2 rfl cv1 (bytesV c1) rfl HQ.out.1 (fun _ => True) vo (bytesV (n.carry 1 0 d.b).2.1) rfl HQ.out.2.1 (bytesV_one _) (by have := HQ.out; rw [bytesV_length, bytesV_length]; omega) (by have := HQ.out; rw [bytesV_length, bytesV_length]; unfold maxLen; omega) ?c9)
              case c9 =>
                intro A' c' w4 q1 q2 g4
                have hc4 : w4.cell? ⟨w2.heap.size + 1, 1, none⟩ = some cv1 := (Held.blk (l1 := [rBlk wr.heap.size 33 #[.int .i64 d.op, .int .i64 d.id, .int .i64 d.a, .int .i64 d.b, .slice bA d.bytes.length bc], rBlk w2.heap.size 31 #[sv0, sv1]]) g4).cell rfl
                have hf4 := (Held.blk (l1 := [rBlk wr.heap.size 33 #[.int .i64 d.op, .int .i64 d.id, .int .i64 d.a, .int .i64 d.b, .slice bA d.bytes.length bc], rBlk w2.heap.size 31 #[sv0, sv1]]) g4).frozen 1
                have H4 := hid g4
                clear g4
                go_wp2
                go_meet
                case rel =>
                  obtain ⟨-, -, hok, hll, hl, hsum, hdl, hdm, -⟩ := HQ.out
                  have g5 := Held.store (l1 := [rBlk wr.heap.size 33 #[.int .i64 d.op, .int .i64 d.id, .int .i64 d.a, .int .i64 d.b, .slice bA d.bytes.length bc], rBlk w2.heap.size 31 #[sv0, sv1]]) H4.out 1 (.slice A' ((bytesV c1).length + (bytesV (n.carry 1 0 d.b).2.1).length) c')
                  rw [bytes_slice] at g5
                  have g6 := Held.drop (l1 := [rBlk wr.heap.size 33 #[.int .i64 d.op, .int .i64 d.id, .int .i64 d.a, .int .i64 d.b, .slice bA d.bytes.length bc], rBlk w2.heap.size 31 #[sv0, sv1], rBlk (w2.heap.size + 1) 31 #[cv0, .slice A' ((bytesV c1).length + (bytesV (n.carry 1 0 d.b).2.1).length) c']]) g5
                  exact OrdAt.mk (ds := ds) (k := k + 1) hok (by omega) (by omega) _ g6
            · obtain ⟨ho, hl, hsum, g0, hr0, hdl, hdm, hwf⟩ := GG.out
              go_wp2_with fail
              refine (carry_held [rBlk wr.heap.size 33 #[.int .i64 d.op, .int .i64 d.id, .int .i64 d.a, .int .i64 d.b, .slice bA d.bytes.length bc], rBlk w2.heap.size 31 #[sv0, sv1], rBlk (w2.heap.size + 1) 31 #[cv0, cv1]] [rBytes sv0 s0, rBytes sv1 s1, rBytes cv0 c0, rBytes cv1 c1] g0 ho.ok (by omega) 1 1 d.b wf1).mono ?_
              rintro e w3 ⟨vo, rfl, g3⟩
              have hq := ho.carry1 d.b
              have hll := carry_last n 1 1 d.b
              have hc1 : w3.cell? ⟨w2.heap.size + 1, 0, none⟩ = some cv0 := (Held.blk (l1 := [rBlk wr.heap.size 33 #[.int .i64 d.op, .int .i64 d.id, .int .i64 d.a, .int .i64 d.b, .slice bA d.bytes.length bc], rBlk w2.heap.size 31 #[sv0, sv1]]) g3).cell rfl
              have hr3 := Held.bytes (l1 := [rBlk wr.heap.size 33 #[.int .i64 d.op, .int .i64 d.id, .int .i64 d.a, .int .i64 d.b, .slice bA d.bytes.length bc], rBlk w2.heap.size 31 #[sv0, sv1], rBlk (w2.heap.size + 1) 31 #[cv0, cv1]]) g3
              have hbg := hq.begins
              rw [List.length_append] at hbg
              have HQ := hid (And.intro g3 (And.intro hr3 (And.intro hq (And.intro hll (And.intro hl (And.intro hsum (And.intro hdl (And.intro hdm hbg))))))))
              clear ho hl hsum g0 hr0 hdl hdm hwf g3 hr3 hq hll hbg
              go_wp2_with (at_builtin; refine wpList_append_held (w0 := w) [rBlk wr.heap.size 33 #[.int .i64 d.op, .int .i64 d.id, .int .i64 d.a, .int .i64 d.b, .slice bA d.bytes.length bc], rBlk w2.heap.size 31 #[sv0, sv1], rBlk (w2.heap.size + 1) 31 #[cv0, cv1], rBytes vo (n.carry 1 1 d.b).2.1, rNet p (n.carry 1 1 d.b).1, rBytes sv0 s0, rBytes sv1 s1] [rBytes cv1 c1] rfl _ _ 30 rfl 5 i0 (.int .u8 0) 1 Try.underlying30 HI.out.1 HI.out.2.1 HI.out.2.2.1 HI.out.2.2.2 rfl cv0 (bytesV c0) rfl HQ.out.1 (fun _ => True) vo (bytesV (n.carry 1 1 d.b).2.1) rfl HQ.out.2.1 (bytesV_one _) (by have := HQ.out; rw [bytesV_length, bytesV_length]; omega) (by have := HQ.out; rw [bytesV_length, bytesV_length]; unfold maxLen; omega) ?c9)
              case c9 =>
                intro A' c' w4 q1 q2 g4
                have hc4 : w4.cell? ⟨w2.heap.size + 1, 0, none⟩ = some cv0 := (Held.blk (l1 := [rBlk wr.heap.size 33 #[.int .i64 d.op, .int .i64 d.id, .int .i64 d.a, .int .i64 d.b, .slice bA d.bytes.length bc], rBlk w2.heap.size 31 #[sv0, sv1]]) g4).cell rfl
                have hf4 := (Held.blk (l1 := [rBlk wr.heap.size 33 #[.int .i64 d.op, .int .i64 d.id, .int .i64 d.a, .int .i64 d.b, .slice bA d.bytes.length bc], rBlk w2.heap.size 31 #[sv0, sv1]]) g4).frozen 0
                have H4 := hid g4
                clear g4
                go_wp2
                go_meet
                case rel =>
                  obtain ⟨-, -, hok, hll, hl, hsum, hdl, hdm, -⟩ := HQ.out
                  have g5 := Held.store (l1 := [rBlk wr.heap.size 33 #[.int .i64 d.op, .int .i64 d.id, .int .i64 d.a, .int .i64 d.b, .slice bA d.bytes.length bc], rBlk w2.heap.size 31 #[sv0, sv1]]) H4.out 0 (.slice A' ((bytesV c0).length + (bytesV (n.carry 1 1 d.b).2.1).length) c')
                  rw [bytes_slice] at g5
                  have g6 := Held.drop (l1 := [rBlk wr.heap.size 33 #[.int .i64 d.op, .int .i64 d.id, .int .i64 d.a, .int .i64 d.b, .slice bA d.bytes.length bc], rBlk w2.heap.size 31 #[sv0, sv1], rBlk (w2.heap.size + 1) 31 #[.slice A' ((bytesV c0).length + (bytesV (n.carry 1 1 d.b).2.1).length) c', cv1]]) g5
                  exact OrdAt.mk (ds := ds) (k := k + 1) hok (by omega) (by omega) _ g6
          · -- Carry
            rcases hmv with rfl | rfl
            · obtain ⟨ho, hl, hsum, g0, hr0, hdl, hdm, hwf⟩ := GG.out
              go_wp2_with fail
              refine (carry_held [rBlk wr.heap.size 33 #[.int .i64 d.op, .int .i64 d.id, .int .i64 d.a, .int .i64 d.b, .slice bA d.bytes.length bc], rBlk w2.heap.size 31 #[sv0, sv1], rBlk (w2.heap.size + 1) 31 #[cv0, cv1]] [rBytes sv0 s0, rBytes sv1 s1, rBytes cv0 c0, rBytes cv1 c1] g0 ho.ok (by omega) 1 0 d.b wf1).mono ?_
              rintro e w3 ⟨vo, rfl, g3⟩
              have hq := ho.carry0 d.b
              have hll := carry_last n 1 0 d.b
              have hc1 : w3.cell? ⟨w2.heap.size + 1, 1, none⟩ = some cv1 := (Held.blk (l1 := [rBlk wr.heap.size 33 #[.int .i64 d.op, .int .i64 d.id, .int .i64 d.a, .int .i64 d.b, .slice bA d.bytes.length bc], rBlk w2.heap.size 31 #[sv0, sv1]]) g3).cell rfl
              have hr3 := Held.bytes (l1 := [rBlk wr.heap.size 33 #[.int .i64 d.op, .int .i64 d.id, .int .i64 d.a, .int .i64 d.b, .slice bA d.bytes.length bc], rBlk w2.heap.size 31 #[sv0, sv1], rBlk (w2.heap.size + 1) 31 #[cv0, cv1]]) g3
              have hbg := hq.begins
              rw [List.length_append] at hbg
              have HQ := hid (And.intro g3 (And.intro hr3 (And.intro hq (And.intro hll (And.intro hl (And.intro hsum (And.intro hdl (And.intro hdm hbg))))))))
              clear ho hl hsum g0 hr0 hdl hdm hwf g3 hr3 hq hll hbg
              go_wp2_with (at_builtin; refine wpList_append_held (w0 := w) [rBlk wr.heap.size 33 #[.int .i64 d.op, .int .i64 d.id, .int .i64 d.a, .int .i64 d.b, .slice bA d.bytes.length bc], rBlk w2.heap.size 31 #[sv0, sv1], rBlk (w2.heap.size + 1) 31 #[cv0, cv1], rBytes vo (n.carry 1 0 d.b).2.1, rNet p (n.carry 1 0 d.b).1, rBytes sv0 s0, rBytes sv1 s1, rBytes cv0 c0] [] rfl _ _ 30 rfl 5 i0 (.int .u8 0) 1 Try.underlying30 HI.out.1 HI.out.2.1 HI.out.2.2.1 HI.out.2.2.2 rfl cv1 (bytesV c1) rfl HQ.out.1 (fun _ => True) vo (bytesV (n.carry 1 0 d.b).2.1) rfl HQ.out.2.1 (bytesV_one _) (by have := HQ.out; rw [bytesV_length, bytesV_length]; omega) (by have := HQ.out; rw [bytesV_length, bytesV_length]; unfold maxLen; omega) ?c9)
              case c9 =>
                intro A' c' w4 q1 q2 g4
                have hc4 : w4.cell? ⟨w2.heap.size + 1, 1, none⟩ = some cv1 := (Held.blk (l1 := [rBlk wr.heap.size 33 #[.int .i64 d.op, .int .i64 d.id, .int .i64 d.a, .int .i64 d.b, .slice bA d.bytes.length bc], rBlk w2.heap.size 31 #[sv0, sv1]]) g4).cell rfl
                have hf4 := (Held.blk (l1 := [rBlk wr.heap.size 33 #[.int .i64 d.op, .int .i64 d.id, .int .i64 d.a, .int .i64 d.b, .slice bA d.bytes.length bc], rBlk w2.heap.size 31 #[sv0, sv1]]) g4).frozen 1
                have H4 := hid g4
                clear g4
                go_wp2
                go_meet
                case rel =>
                  obtain ⟨-, -, hok, hll, hl, hsum, hdl, hdm, -⟩ := HQ.out
                  have g5 := Held.store (l1 := [rBlk wr.heap.size 33 #[.int .i64 d.op, .int .i64 d.id, .int .i64 d.a, .int .i64 d.b, .slice bA d.bytes.length bc], rBlk w2.heap.size 31 #[sv0, sv1]]) H4.out 1 (.slice A' ((bytesV c1).length + (bytesV (n.carry 1 0 d.b).2.1).length) c')
                  rw [bytes_slice] at g5
                  have g6 := Held.drop (l1 := [rBlk wr.heap.size 33 #[.int .i64 d.op, .int .i64 d.id, .int .i64 d.a, .int .i64 d.b, .slice bA d.bytes.length bc], rBlk w2.heap.size 31 #[sv0, sv1], rBlk (w2.heap.size + 1) 31 #[cv0, .slice A' ((bytesV c1).length + (bytesV (n.carry 1 0 d.b).2.1).length) c']]) g5
                  exact OrdAt.mk (ds := ds) (k := k + 1) hok (by omega) (by omega) _ g6
            · obtain ⟨ho, hl, hsum, g0, hr0, hdl, hdm, hwf⟩ := GG.out
              go_wp2_with fail
              refine (carry_held [rBlk wr.heap.size 33 #[.int .i64 d.op, .int .i64 d.id, .int .i64 d.a, .int .i64 d.b, .slice bA d.bytes.length bc], rBlk w2.heap.size 31 #[sv0, sv1], rBlk (w2.heap.size + 1) 31 #[cv0, cv1]] [rBytes sv0 s0, rBytes sv1 s1, rBytes cv0 c0, rBytes cv1 c1] g0 ho.ok (by omega) 1 1 d.b wf1).mono ?_
              rintro e w3 ⟨vo, rfl, g3⟩
              have hq := ho.carry1 d.b
              have hll := carry_last n 1 1 d.b
              have hc1 : w3.cell? ⟨w2.heap.size + 1, 0, none⟩ = some cv0 := (Held.blk (l1 := [rBlk wr.heap.size 33 #[.int .i64 d.op, .int .i64 d.id, .int .i64 d.a, .int .i64 d.b, .slice bA d.bytes.length bc], rBlk w2.heap.size 31 #[sv0, sv1]]) g3).cell rfl
              have hr3 := Held.bytes (l1 := [rBlk wr.heap.size 33 #[.int .i64 d.op, .int .i64 d.id, .int .i64 d.a, .int .i64 d.b, .slice bA d.bytes.length bc], rBlk w2.heap.size 31 #[sv0, sv1], rBlk (w2.heap.size + 1) 31 #[cv0, cv1]]) g3
              have hbg := hq.begins
              rw [List.length_append] at hbg
              have HQ := hid (And.intro g3 (And.intro hr3 (And.intro hq (And.intro hll (And.intro hl (And.intro hsum (And.intro hdl (And.intro hdm hbg))))))))
              clear ho hl hsum g0 hr0 hdl hdm hwf g3 hr3 hq hll hbg
              go_wp2_with (at_builtin; refine wpList_append_held (w0 := w) [rBlk wr.heap.size 33 #[.int .i64 d.op, .int .i64 d.id, .int .i64 d.a, .int .i64 d.b, .slice bA d.bytes.length bc], rBlk w2.heap.size 31 #[sv0, sv1], rBlk (w2.heap.size + 1) 31 #[cv0, cv1], rBytes vo (n.carry 1 1 d.b).2.1, rNet p (n.carry 1 1 d.b).1, rBytes sv0 s0, rBytes sv1 s1] [rBytes cv1 c1] rfl _ _ 30 rfl 5 i0 (.int .u8 0) 1 Try.underlying30 HI.out.1 HI.out.2.1 HI.out.2.2.1 HI.out.2.2.2 rfl cv0 (bytesV c0) rfl HQ.out.1 (fun _ => True) vo (bytesV (n.carry 1 1 d.b).2.1) rfl HQ.out.2.1 (bytesV_one _) (by have := HQ.out; rw [bytesV_length, bytesV_length]; omega) (by have := HQ.out; rw [bytesV_length, bytesV_length]; unfold maxLen; omega) ?c9)
              case c9 =>
                intro A' c' w4 q1 q2 g4
                have hc4 : w4.cell? ⟨w2.heap.size + 1, 0, none⟩ = some cv0 := (Held.blk (l1 := [rBlk wr.heap.size 33 #[.int .i64 d.op, .int .i64 d.id, .int .i64 d.a, .int .i64 d.b, .slice bA d.bytes.length bc], rBlk w2.heap.size 31 #[sv0, sv1]]) g4).cell rfl
                have hf4 := (Held.blk (l1 := [rBlk wr.heap.size 33 #[.int .i64 d.op, .int .i64 d.id, .int .i64 d.a, .int .i64 d.b, .slice bA d.bytes.length bc], rBlk w2.heap.size 31 #[sv0, sv1]]) g4).frozen 0
                have H4 := hid g4
                clear g4
                go_wp2
                go_meet
                case rel =>
                  obtain ⟨-, -, hok, hll, hl, hsum, hdl, hdm, -⟩ := HQ.out
                  have g5 := Held.store (l1 := [rBlk wr.heap.size 33 #[.int .i64 d.op, .int .i64 d.id, .int .i64 d.a, .int .i64 d.b, .slice bA d.bytes.length bc], rBlk w2.heap.size 31 #[sv0, sv1]]) H4.out 0 (.slice A' ((bytesV c0).length + (bytesV (n.carry 1 1 d.b).2.1).length) c')
                  rw [bytes_slice] at g5
                  have g6 := Held.drop (l1 := [rBlk wr.heap.size 33 #[.int .i64 d.op, .int .i64 d.id, .int .i64 d.a, .int .i64 d.b, .slice bA d.bytes.length bc], rBlk w2.heap.size 31 #[sv0, sv1], rBlk (w2.heap.size + 1) 31 #[.slice A' ((bytesV c0).length + (bytesV (n.carry 1 1 d.b).2.1).length) c', cv1]]) g5
                  exact OrdAt.mk (ds := ds) (k := k + 1) hok (by omega) (by omega) _ g6
          · -- Close
            rcases hmv with rfl | rfl
            · obtain ⟨ho, hl, hsum, g0, hr0, hdl, hdm, hwf⟩ := GG.out
              go_wp2_with fail
              refine (close_held [rBlk wr.heap.size 33 #[.int .i64 d.op, .int .i64 d.id, .int .i64 d.a, .int .i64 d.b, .slice bA d.bytes.length bc], rBlk w2.heap.size 31 #[sv0, sv1], rBlk (w2.heap.size + 1) 31 #[cv0, cv1]] [rBytes sv0 s0, rBytes sv1 s1, rBytes cv0 c0, rBytes cv1 c1] g0 ho.ok (by omega) 1 0 wf1).mono ?_
              rintro e w3 ⟨rfl, g3⟩
              have hq := ho.close 0
              have hll := close_last n 1 0
              have HQ := hid (OrdAt.mk (ds := ds) (k := k + 1) hq (by omega) (by omega) _ g3)
              clear hq ho hl hsum g0 hr0 hdl hdm hwf g3 hll
              go_wp2
              go_meet
              case rel => exact HQ.out
            · obtain ⟨ho, hl, hsum, g0, hr0, hdl, hdm, hwf⟩ := GG.out
              go_wp2_with fail
              refine (close_held [rBlk wr.heap.size 33 #[.int .i64 d.op, .int .i64 d.id, .int .i64 d.a, .int .i64 d.b, .slice bA d.bytes.length bc], rBlk w2.heap.size 31 #[sv0, sv1], rBlk (w2.heap.size + 1) 31 #[cv0, cv1]] [rBytes sv0 s0, rBytes sv1 s1, rBytes cv0 c0, rBytes cv1 c1] g0 ho.ok (by omega) 1 1 wf1).mono ?_
              rintro e w3 ⟨rfl, g3⟩
              have hq := ho.close 1
              have hll := close_last n 1 1
              have HQ := hid (OrdAt.mk (ds := ds) (k := k + 1) hq (by omega) (by omega) _ g3)
              clear hq ho hl hsum g0 hr0 hdl hdm hwf g3 hll
              go_wp2
              go_meet
              case rel => exact HQ.out
          · -- nothing
            obtain ⟨ho, hl, hsum, g0, hr0, hdl, hdm, hwf⟩ := GG.out
            have HQ := hid (OrdAt.mk (ds := ds) (k := k + 1) ho (by omega) (by omega) _ g0)
            clear ho hl hsum g0 hr0 hdl hdm hwf
            go_wp2
            go_meet
            case rel => exact HQ.out
          · -- nothing
            obtain ⟨ho, hl, hsum, g0, hr0, hdl, hdm, hwf⟩ := GG.out
            have HQ := hid (OrdAt.mk (ds := ds) (k := k + 1) ho (by omega) (by omega) _ g0)
            clear ho hl hsum g0 hr0 hdl hdm hwf
            go_wp2
            go_meet
            case rel => exact HQ.out
        case rest =>
          obtain ⟨n', t0, t1, x0, x1, tv0, tv1, xv0, xv1, ho, hl, hsum, hh⟩ := hcut
          have hb0 := ho.begins
          have hdm := dlen_mono ds (show k + 1 ≤ ds.length by omega)
          have rt0 := Held.bytes (l1 := [rBlk w2.heap.size 31 #[tv0, tv1], rBlk (w2.heap.size + 1) 31 #[xv0, xv1], rNet p n']) hh
          have rt1 := Held.bytes (l1 := [rBlk w2.heap.size 31 #[tv0, tv1], rBlk (w2.heap.size + 1) 31 #[xv0, xv1], rNet p n', rBytes tv0 t0]) hh
          have rx0 := Held.bytes (l1 := [rBlk w2.heap.size 31 #[tv0, tv1], rBlk (w2.heap.size + 1) 31 #[xv0, xv1], rNet p n', rBytes tv0 t0, rBytes tv1 t1]) hh
          have rx1 := Held.bytes (l1 := [rBlk w2.heap.size 31 #[tv0, tv1], rBlk (w2.heap.size + 1) 31 #[xv0, xv1], rNet p n', rBytes tv0 t0, rBytes tv1 t1, rBytes xv0 x0]) hh
          obtain ⟨T0, d0, rfl, q0, m0⟩ := Held.form (l1 := [rBlk w2.heap.size 31 #[tv0, tv1], rBlk (w2.heap.size + 1) 31 #[xv0, xv1], rNet p n']) hh
          obtain ⟨T1, d1, rfl, q1, m1⟩ := Held.form (l1 := [rBlk w2.heap.size 31 #[.slice T0 t0.length d0, tv1], rBlk (w2.heap.size + 1) 31 #[xv0, xv1], rNet p n', rBytes (.slice T0 t0.length d0) t0]) hh
          obtain ⟨X0, f0, rfl, v0, y0⟩ := Held.form (l1 := [rBlk w2.heap.size 31 #[.slice T0 t0.length d0, .slice T1 t1.length d1], rBlk (w2.heap.size + 1) 31 #[xv0, xv1], rNet p n', rBytes (.slice T0 t0.length d0) t0, rBytes (.slice T1 t1.length d1) t1]) hh
          obtain ⟨X1, f1, rfl, v1, y1⟩ := Held.form (l1 := [rBlk w2.heap.size 31 #[.slice T0 t0.length d0, .slice T1 t1.length d1], rBlk (w2.heap.size + 1) 31 #[.slice X0 x0.length f0, xv1], rNet p n', rBytes (.slice T0 t0.length d0) t0, rBytes (.slice T1 t1.length d1) t1, rBytes (.slice X0 x0.length f0) x0]) hh
          have bb := Held.blk (l1 := []) hh
          have bc' := Held.blk (l1 := [rBlk w2.heap.size 31 #[.slice T0 t0.length d0, .slice T1 t1.length d1]]) hh
          have k1 : wc.cell? ⟨w2.heap.size, 0, none⟩ = some (.slice T0 t0.length d0) := bb.cell rfl
          have k2 : wc.cell? ⟨w2.heap.size, 1, none⟩ = some (.slice T1 t1.length d1) := bb.cell rfl
          have k3 : wc.cell? ⟨w2.heap.size + 1, 0, none⟩ = some (.slice X0 x0.length f0) := bc'.cell rfl
          have k4 : wc.cell? ⟨w2.heap.size + 1, 1, none⟩ = some (.slice X1 x1.length f1) := bc'.cell rfl
          obtain ⟨⟨z0, z1⟩, z2, z3⟩ := hb0
          have EQ0 := hid (equal_bytes (fun _ => True) (fun _ => True) · (.slice X0 x0.length f0) (.slice T0 x0.length d0) x0 x0)
          have EQ1 := hid (equal_bytes (fun _ => True) (fun _ => True) · (.slice X1 x1.length f1) (.slice T1 x1.length d1) x1 x1)
          have HT0 := hid (show Rd (fun _ => True) wc (.slice T0 x0.length d0) (bytesV x0) by rw [← z1]; rw [bytesV_take, z1]; exact rt0.take z0)
          have HT1 := hid (show Rd (fun _ => True) wc (.slice T1 x1.length d1) (bytesV x1) by rw [← z3]; rw [bytesV_take, z3]; exact rt1.take z2)
          have HX0 := hid rx0
          have HX1 := hid rx1
          have n1 : decide (t0.length < x0.length) = false := by simp; omega
          have n2 : decide (t1.length < x1.length) = false := by simp; omega
          have HQ := hid (And.intro ho (And.intro hl (And.intro hsum hh)))
          clear ho hl hsum hh rt0 rt1 rx0 rx1 bb bc' z1 z3
          go_wp2_with fail
          refine wp_loop_rounds 3 ?_
          rw [rounds_succ]
          go_wp2_with fail
          go_quiet (first | (go_at_call 17; exact Calls.quiet_of (EQ0.out _ HX0.out HT0.out)))
          clear EQ0 HX0 HT0
          go_wp2_with fail
          rw [rounds_succ]
          go_wp2_with fail
          go_quiet (first | (go_at_call 17; exact quiet_add (EQ1.out (wc.drewN (nq + _)) HX1.out HT1.out)))
          clear EQ1 HX1 HT1
          go_wp2_with fail
          rw [rounds_succ]
          go_wp2_with fail
          go_roundw
          case rel =>
            obtain ⟨ho, hl, hsum, hh⟩ := HQ.out
            exact ⟨k + 1, by omega, by simp, _, _, _, _, _, _, _, _, _, ho, by omega, hsum, hh.drewN _⟩
          show ds.length - ((k : Int) + 1).toNat < ds.length - (k : Int).toNat
          omega
      · have hke : k = ds.length := by omega
        subst hke
        obtain ⟨n, s0, s1, c0, c1, sv0, sv1, cv0, cv1, ho, hl, hsum, hh⟩ := hO
        have CH := hid (carry_held [rBlk w2.heap.size 31 #[sv0, sv1], rBlk (w2.heap.size + 1) 31 #[cv0, cv1]] [rBytes sv0 s0, rBytes sv1 s1, rBytes cv0 c0, rBytes cv1 c1] hh ho.ok (by omega) 1 1 1048576 wf1)
        have HH := hid (And.intro ho (And.intro hl hsum))
        clear ho hl hsum hh
        go_wp2_with fail
        refine wp_loop_rounds 3 ?_
        rw [rounds_succ]
        go_wp2_with fail
        refine CH.out.mono ?_
        rintro e w3 ⟨vo, rfl, g3⟩
        have hc1 : w3.cell? ⟨w2.heap.size + 1, 0, none⟩ = some cv0 := (Held.blk (l1 := [rBlk w2.heap.size 31 #[sv0, sv1]]) g3).cell rfl
        have hbg := HH.out.1.begins
        have hla := HH.out.1.all1
        have hlb : s0.length = c0.length + (n.carry 1 1 1048576).2.1.length := by rw [← List.length_append, ← hla]
        have hll := carry_last n 1 1 1048576
        have HA := hid (And.intro (HH.out.1.carry1 1048576) (And.intro hla (And.intro hlb (And.intro hll (And.intro g3 (Held.bytes (l1 := [rBlk w2.heap.size 31 #[sv0, sv1], rBlk (w2.heap.size + 1) 31 #[cv0, cv1]]) g3))))))
        clear g3 CH hla hlb hbg hll
        go_wp2_with (at_builtin; refine wpList_append_held (w0 := w) [rBlk w2.heap.size 31 #[sv0, sv1], rBlk (w2.heap.size + 1) 31 #[cv0, cv1], rBytes vo (n.carry 1 1 1048576).2.1, rNet p (n.carry 1 1 1048576).1, rBytes sv0 s0, rBytes sv1 s1] [rBytes cv1 c1] rfl _ _ 30 rfl 5 i0 (.int .u8 0) 1 Try.underlying30 HI.out.1 HI.out.2.1 HI.out.2.2.1 HI.out.2.2.2 rfl cv0 (bytesV c0) rfl HA.out.2.2.2.2.1 (fun _ => True) vo (bytesV (n.carry 1 1 1048576).2.1) rfl HA.out.2.2.2.2.2 (bytesV_one _) (by have := HA.out; have := HH.out; rw [bytesV_length, bytesV_length]; omega) (by have := HA.out; have := HH.out; rw [bytesV_length, bytesV_length]; unfold maxLen; omega) ?c9)
        case c9 =>
          intro A' c' w4 q1 q2 g4
          have hc4 : w4.cell? ⟨w2.heap.size + 1, 0, none⟩ = some cv0 := (Held.blk (l1 := [rBlk w2.heap.size 31 #[sv0, sv1]]) g4).cell rfl
          have hf4 := (Held.blk (l1 := [rBlk w2.heap.size 31 #[sv0, sv1]]) g4).frozen 0
          obtain ⟨ho1, hla, hlb, hll, -, -⟩ := HA.out
          have g5 := Held.store (l1 := [rBlk w2.heap.size 31 #[sv0, sv1]]) g4 0 (.slice A' ((bytesV c0).length + (bytesV (n.carry 1 1 1048576).2.1).length) c')
          rw [bytes_slice, ← hla] at g5
          rw [← hla] at ho1
          have CH := hid (carry_held [rBlk w2.heap.size 31 #[sv0, sv1], rBlk (w2.heap.size + 1) 31 #[.slice A' ((bytesV c0).length + (bytesV (n.carry 1 1 1048576).2.1).length) c', cv1], rBytes vo (n.carry 1 1 1048576).2.1] [rBytes sv0 s0, rBytes sv1 s1, rBytes (.slice A' ((bytesV c0).length + (bytesV (n.carry 1 1 1048576).2.1).length) c') s0, rBytes cv1 c1] g5 ho1.ok (by have := HH.out; omega) 1 0 1048576 wf1)
          have HB := hid ho1
          clear g4 g5 HA hla hlb hll ho1
          go_wp2_with fail
          rw [rounds_succ]
          go_wp2_with fail
          generalize (n.carry 1 1 1048576).1 = m at *
          generalize (n.carry 1 1 1048576).2.1 = x at *
          refine CH.out.mono ?_
          rintro e w5 ⟨vp, rfl, g3⟩
          have hc1 : w5.cell? ⟨w2.heap.size + 1, 1, none⟩ = some cv1 := (Held.blk (l1 := [rBlk w2.heap.size 31 #[sv0, sv1]]) g3).cell rfl
          have hla := HB.out.all0
          have hlb : s1.length = c1.length + (m.carry 1 0 1048576).2.1.length := by rw [← List.length_append, ← hla]
          have HA := hid (And.intro hla (And.intro hlb (And.intro g3 (Held.bytes (l1 := [rBlk w2.heap.size 31 #[sv0, sv1], rBlk (w2.heap.size + 1) 31 #[.slice A' ((bytesV c0).length + (bytesV x).length) c', cv1], rBytes vo x]) g3))))
          clear g3 CH hla hlb HB
          go_wp2_with (at_builtin; refine wpList_append_held (w0 := w) [rBlk w2.heap.size 31 #[sv0, sv1], rBlk (w2.heap.size + 1) 31 #[.slice A' ((bytesV c0).length + (bytesV x).length) c', cv1], rBytes vo x, rBytes vp (m.carry 1 0 1048576).2.1, rNet p (m.carry 1 0 1048576).1, rBytes sv0 s0, rBytes sv1 s1, rBytes (.slice A' ((bytesV c0).length + (bytesV x).length) c') s0] [] rfl _ _ 30 rfl 5 i0 (.int .u8 0) 1 Try.underlying30 HI.out.1 HI.out.2.1 HI.out.2.2.1 HI.out.2.2.2 rfl cv1 (bytesV c1) rfl HA.out.2.2.1 (fun _ => True) vp (bytesV (m.carry 1 0 1048576).2.1) rfl HA.out.2.2.2 (bytesV_one _) (by have := HA.out; have := HH.out; rw [bytesV_length, bytesV_length]; omega) (by have := HA.out; have := HH.out; rw [bytesV_length, bytesV_length]; unfold maxLen; omega) ?c9)
          case c9 =>
            intro A2 c2 w6 q1 q2 g4
            have hc4 : w6.cell? ⟨w2.heap.size + 1, 1, none⟩ = some cv1 := (Held.blk (l1 := [rBlk w2.heap.size 31 #[sv0, sv1]]) g4).cell rfl
            have hf4 := (Held.blk (l1 := [rBlk w2.heap.size 31 #[sv0, sv1]]) g4).frozen 1
            obtain ⟨hla, hlb, -, -⟩ := HA.out
            have g5 := Held.store (l1 := [rBlk w2.heap.size 31 #[sv0, sv1]]) g4 1 (.slice A2 ((bytesV c1).length + (bytesV (m.carry 1 0 1048576).2.1).length) c2)
            rw [bytes_slice, ← hla] at g5
            have H4 := hid g5
            clear g4 g5 HA hla hlb
            go_wp2_with fail
            generalize w6.setCell ⟨w2.heap.size + 1, 1, none⟩ (.slice A2 ((bytesV c1).length + (bytesV (m.carry 1 0 1048576).2.1).length) c2) = w7 at *
            generalize (Value.slice A2 ((bytesV c1).length + (bytesV (m.carry 1 0 1048576).2.1).length) c2) = vz at *
            generalize (Value.slice A' ((bytesV c0).length + (bytesV x).length) c') = vy at *
            have k1 : w7.cell? ⟨w2.heap.size, 0, none⟩ = some sv0 := (Held.blk (l1 := []) H4.out).cell rfl
            have k2 : w7.cell? ⟨w2.heap.size, 1, none⟩ = some sv1 := (Held.blk (l1 := []) H4.out).cell rfl
            have k3 : w7.cell? ⟨w2.heap.size + 1, 0, none⟩ = some vy := (Held.blk (l1 := [rBlk w2.heap.size 31 #[sv0, sv1]]) H4.out).cell rfl
            have k4 : w7.cell? ⟨w2.heap.size + 1, 1, none⟩ = some vz := (Held.blk (l1 := [rBlk w2.heap.size 31 #[sv0, sv1]]) H4.out).cell rfl
            have EQ0 := hid (equal_bytes (fun _ => True) (fun _ => True) · vy sv0 s0 s0)
            have EQ1 := hid (equal_bytes (fun _ => True) (fun _ => True) · vz sv1 s1 s1)
            have R0 := hid (Held.bytes (l1 := [rBlk w2.heap.size 31 #[sv0, sv1], rBlk (w2.heap.size + 1) 31 #[vy, vz], rBytes vo x, rBytes vp (m.carry 1 0 1048576).2.1, rNet p (m.carry 1 0 1048576).1]) H4.out)
            have R1 := hid (Held.bytes (l1 := [rBlk w2.heap.size 31 #[sv0, sv1], rBlk (w2.heap.size + 1) 31 #[vy, vz], rBytes vo x, rBytes vp (m.carry 1 0 1048576).2.1, rNet p (m.carry 1 0 1048576).1, rBytes sv0 s0]) H4.out)
            have R2 := hid (Held.bytes (l1 := [rBlk w2.heap.size 31 #[sv0, sv1], rBlk (w2.heap.size + 1) 31 #[vy, vz], rBytes vo x, rBytes vp (m.carry 1 0 1048576).2.1, rNet p (m.carry 1 0 1048576).1, rBytes sv0 s0, rBytes sv1 s1]) H4.out)
            have R3 := hid (Held.bytes (l1 := [rBlk w2.heap.size 31 #[sv0, sv1], rBlk (w2.heap.size + 1) 31 #[vy, vz], rBytes vo x, rBytes vp (m.carry 1 0 1048576).2.1, rNet p (m.carry 1 0 1048576).1, rBytes sv0 s0, rBytes sv1 s1, rBytes vy s0]) H4.out)
            have HF := hid fun n : Nat => (H4.out.drewN n).below
            clear H4
            rw [rounds_succ]
            go_wp2_with fail
            refine (EQ0.out _ R2.out R0.out).mono ?_
            rintro e w8 ⟨rfl, n1, rfl⟩
            go_wp2_with fail
            refine (EQ1.out (w7.drewN n1) R3.out R1.out).mono ?_
            rintro e w8 ⟨rfl, n2, rfl⟩
            go_wp2_with fail
            go_ret
            simp only [World.drewN_drewN]
            exact ⟨by simp, HF.out _⟩
end Go.Proofs.Ytcdeknbbeghljaa
