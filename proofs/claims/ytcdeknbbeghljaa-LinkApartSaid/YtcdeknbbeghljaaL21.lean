/- LinkOnce: the walk. -/
import Derived.Test.YtcdeknbbeghljaaL20
import Derived.Test.YtcdeknbbeghljaaL11
import Derived.Deep.CutBlock
import Derived.Deep.DeepCutAuto
import Derived.Deep.RegionLaw
import Derived.BigQuiet
namespace Go.Proofs.Ytcdeknbbeghljaa
open Go.RowKit
open Link

def OnceAt (w0 : World) (p k : Nat) (last : Int) (w : World) : Prop := ∃ n : Net, n.Ok ∧ n.last = last ∧ n.last ≤ k ∧ Held w0 w [rNet p n]

theorem Link.Net.Ok.cut {n : Net} (h : n.Ok) (id : Int) : (n.cut id).1.Ok := by
  unfold Net.cut; split
  · exact h
  · exact h.del id
theorem cut_last (n : Net) (id : Int) : (n.cut id).1.last = n.last := by unfold Net.cut; split <;> rfl
theorem dial_cases (n : Net) (a b : Int) : ((n.dial a b).2.2 ≠ 0 ∧ (n.dial a b).2.1 = 0 ∧ (n.dial a b).1 = n) ∨ ((n.dial a b).2.2 = 0 ∧ (n.dial a b).2.1 = n.last + 1 ∧ (n.dial a b).1.last = n.last + 1 ∧ (n.dial a b).1.ids.contains (n.last + 1) = true) := by
  unfold Net.dial
  split
  · exact .inl ⟨by simp, rfl, rfl⟩
  · split
    · exact .inl ⟨by simp, rfl, rfl⟩
    · refine .inr ⟨rfl, rfl, rfl, ?_⟩
      simp [ids_mem]

set_option maxRecDepth 100000 in
set_option maxHeartbeats 4000000 in
theorem once_walk (w : World) (v : Value) (ds : List Do) (h : Dos w.heap.size w v ds) :
    Calls Try.prog 5 #[v] w fun e w' => e = .returned (.bool true) ∧ Below w.heap.size w w' := by
  obtain ⟨A, c, rfl, hc, hm⟩ := h.form
  have HW := hid (awake_any w)
  have HS := hid (short_any w.heap.size w _ ds h)
  have HD := hid h
  have H0 := hid (Held.begin w)
  clear h
  go_enter Try.func5, Try.ntmps5
  go_wp2_with fail
  refine HS.out.mono ?_
  rintro e w' ⟨r, rfl, hr, rfl⟩
  cases r with
  | false =>
    clear hr
    go_wp2_with (first
      | (go_at_call 11; refine HW.out.mono ?_; rintro e w' ⟨rfl, hm⟩))
    go_ret
    exact ⟨rfl, hm.below (Nat.le_refl _) (fun _ _ h => h)⟩
  | true =>
    obtain ⟨hlen, hbytes⟩ := hr rfl
    clear hr hbytes
    go_wp2_with fail
    refine (new_held H0.out).mono ?_
    rintro e w1 ⟨p, rfl, g1⟩
    have HB := hid (show OnceAt w p 0 0 w1 from ⟨_, empty_ok, rfl, by decide, g1⟩)
    clear g1
    go_wp2_with fail
    go_loopw [4, 16] (fun z i wr => ∃ k : Nat, k ≤ ds.length ∧ i = .int .i64 k ∧ ∃ la : Int, z = .int .i64 la ∧ OnceAt w p k la wr) (fun _ i _ => ds.length - (intOf i).toNat)
    case atStart => exact ⟨0, Nat.zero_le _, rfl, 0, rfl, HB.out⟩
    case round =>
      obtain ⟨k, hk, rfl, la, rfl, hO⟩ := hrel
      by_cases hlt : k < ds.length
      · obtain ⟨n, hok, hla, hlk, hh⟩ := hO
        have hd := (HD.out.keep (w' := wr) (fun b hb _ => hh.mod.block b hb (fun h => h))).at hlt
        obtain ⟨b, off, bA, bc, rfl, hbb, e0, e1, e2, e3, e4, hr, hwf⟩ := hd
        have hwid := hwf.id
        clear hr hwf
        generalize ds[k] = d at *
        have hlow := hok.low
        have CD := hid (dial_held [rBlk wr.heap.size 33 #[.int .i64 d.op, .int .i64 d.id, .int .i64 d.a, .int .i64 d.b, .slice bA d.bytes.length bc]] [] (hh.block 33 #[.int .i64 d.op, .int .i64 d.id, .int .i64 d.a, .int .i64 d.b, .slice bA d.bytes.length bc]) hok (by omega) d.a d.b)
        have HK := hid hok
        clear hh hok
        go_wp2_with fail
        refine CD.out.mono ?_
        rintro e w3 ⟨rfl, g3⟩
        have q0 : w3.cell? ⟨wr.heap.size, 0, none⟩ = some (.int .i64 d.op) := (Held.blk (l1 := []) g3).cell rfl
        have q1 : w3.cell? ⟨wr.heap.size, 1, none⟩ = some (.int .i64 d.id) := (Held.blk (l1 := []) g3).cell rfl
        have hok2 := HK.out.dial d.a d.b
        rcases dial_cases n d.a d.b with ⟨h1, h2, h3⟩ | ⟨h1, h2, h3, h4⟩
        · have h1' : ((n.dial d.a d.b).2.2 == 0) = false := by simpa using h1
          have CC := hid (cut_held [rBlk wr.heap.size 33 #[.int .i64 d.op, .int .i64 d.id, .int .i64 d.a, .int .i64 d.b, .slice bA d.bytes.length bc]] [] g3 hok2 (by rw [h3]; omega) d.id hwid)
          rw [h3] at CC hok2
          rw [h2]
          clear h1 h2 h3 hok2 g3 CD
          go_wp2_with fail
          refine CC.out.mono ?_
          rintro e w4 ⟨rfl, g4⟩
          have g4' := Held.drop (l1 := []) g4
          have HO : OnceAt w p (k + 1) la w4 := ⟨_, HK.out.cut d.id, by rw [cut_last]; exact hla, by rw [cut_last]; omega, g4'⟩
          have HP := hid HO
          clear HO g4 g4' CC
          go_wp2_with fail
          exact ⟨⟨k + 1, by omega, by simp, la, rfl, HP.out⟩, by show ds.length - ((k : Int) + 1).toNat < ds.length - (k : Int).toNat; omega⟩
        · have h1' : ((n.dial d.a d.b).2.2 == 0) = true := by rw [h1]; rfl
          have CC := hid (conns_held [rBlk wr.heap.size 33 #[.int .i64 d.op, .int .i64 d.id, .int .i64 d.a, .int .i64 d.b, .slice bA d.bytes.length bc]] [] g3 hok2)
          have HN := hid (And.intro hok2 (And.intro h3 h4))
          rw [h2, hla]
          rw [hla] at HN
          clear h1 h2 h3 h4 hok2 g3 CD
          go_wp2_with fail
          refine CC.out.mono ?_
          rintro e w4 ⟨vi, rfl, g4⟩
          have CT := hid (contains_any (fun _ => True) w4 vi _ (la + 1) (Held.ints (l1 := []) g4))
          rw [HN.out.2.2] at CT
          have q0' : w4.cell? ⟨wr.heap.size, 0, none⟩ = some (.int .i64 d.op) := (Held.blk (l1 := [_]) g4).cell rfl
          clear q0 q1
          have HG := hid g4
          clear g4
          go_wp2_with fail
          refine CT.out.mono ?_
          rintro e w5 ⟨rfl, rfl⟩
          clear CT
          have CC2 := hid (cut_held [rInts vi (n.dial d.a d.b).1.ids, rBlk wr.heap.size 33 #[.int .i64 d.op, .int .i64 d.id, .int .i64 d.a, .int .i64 d.b, .slice bA d.bytes.length bc]] [] HG.out HN.out.1 (by have := HN.out.2.1; omega) (la + 1) (wf_small (by omega) (by omega)))
          have h2t : d.op.tmod 2 = 0 ∨ d.op.tmod 2 ≠ 0 := by omega
          rcases h2t with ht | ht
          · have ht1 : (d.op.tmod 2 == 0) = true := by rw [ht]; rfl
            clear ht
            go_wp2_with fail
            refine CC2.out.mono ?_
            rintro e w6 ⟨rfl, g6⟩
            have HP := hid (show OnceAt w p (k + 1) (la + 1) w6 from ⟨_, HN.out.1.cut (la + 1), by rw [cut_last]; exact HN.out.2.1, by rw [cut_last, HN.out.2.1]; omega, Held.drop (l1 := []) (Held.drop (l1 := []) g6)⟩)
            clear g6
            go_wp2_with fail
            exact ⟨⟨k + 1, by omega, by simp, la + 1, rfl, HP.out⟩, by show ds.length - ((k : Int) + 1).toNat < ds.length - (k : Int).toNat; omega⟩
          · have ht1 : (d.op.tmod 2 == 0) = false := by simpa using ht
            clear ht
            have HP := hid (show OnceAt w p (k + 1) (la + 1) w4 from ⟨_, HN.out.1, HN.out.2.1, by rw [HN.out.2.1]; omega, Held.drop (l1 := []) (Held.drop (l1 := []) HG.out)⟩)
            go_wp2_with fail
            exact ⟨⟨k + 1, by omega, by simp, la + 1, rfl, HP.out⟩, by show ds.length - ((k : Int) + 1).toNat < ds.length - (k : Int).toNat; omega⟩
      · go_wp2_with (first
          | (go_at_call 11; refine (awake_any wr).mono ?_; rintro e w' ⟨rfl, hm⟩))
        go_ret
        obtain ⟨n, -, -, -, hh⟩ := hO
        exact ⟨rfl, (hh.step hm).below⟩
end Go.Proofs.Ytcdeknbbeghljaa
