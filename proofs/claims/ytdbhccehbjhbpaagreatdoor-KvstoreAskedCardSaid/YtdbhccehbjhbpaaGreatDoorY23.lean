/- the reference log: Append. -/
import Derived.Test.YtdbhccehbjhbpaaGreatDoorYC
import Derived.Deep.DeepCutAuto

namespace Go.Proofs.YtdbhccehbjhbpaaGreatDoor
open Go.RowKit
open Slog (nameB)

/-- what Append leaves: one record more. -/
def Appended (w0 : World) (B : List Res) (y g n k : Nat) (ps : List (Value × List UInt8)) (w' : World) : Prop :=
  ∃ vL vH vS vR al ps' hs sl rs, (∀ q ∈ ps, q ∈ ps') ∧ RefOk ps' al hs sl (n + 1) (k + 1) ∧ rs.length = n + 1 ∧
    Held w0 w' (rBlk y 97 (rdCells 16777216 vL vH) :: rAl vL al :: rBig bytesLoc ps' :: rFl vH hs :: rBlk g 106 (rlCells y vS vR 1) :: rOwn 3 vS (natRow sl) :: rOwn 87 vR rs :: B)
section
variable {w0 w : World} {B : List Res} {y g n k : Nat} {vL vH vS vR vB : Value} {al : List RA} {ps : List (Value × List UInt8)} {hs : List RF} {sl : List Nat} {rs : List Value} {rec : List UInt8}
theorem natRow_len (l : List Nat) : (natRow l).length = l.length := List.length_map ..
theorem natRow_snoc (l : List Nat) (j : Nat) : natRow (l ++ [j]) = natRow l ++ [.int .i64 (j : Int)] := by unfold natRow; rw [List.map_append]; rfl

set_option maxRecDepth 100000 in
set_option maxHeartbeats 1000000 in
theorem rappend_long (h : Held w0 w (rBlk y 97 (rdCells 16777216 vL vH) :: rAl vL al :: rBig bytesLoc ps :: rFl vH hs :: rBlk g 106 (rlCells y vS vR 1) :: rOwn 3 vS (natRow sl) :: rOwn 87 vR rs :: rBytes vB rec :: B)) (hr : RefOk ps al hs sl n k) (hk : k < 60) (hrs : rs.length = n) (hlen : 65535 < rec.length) (hlen2 : rec.length ≤ 1000000000) :
    Calls Tryz.prog 53 #[.pointer (some ⟨g, 0, none⟩), vB] w fun e w' => e = .returned (.tuple #[.int .i64 0, .int .i64 4]) ∧
      Held w0 w' (rBlk y 97 (rdCells 16777216 vL vH) :: rAl vL al :: rBig bytesLoc ps :: rFl vH hs :: rBlk g 106 (rlCells y vS vR 1) :: rOwn 3 vS (natRow sl) :: rOwn 87 vR rs :: rBytes vB rec :: B) := by
  obtain ⟨SA, Sc, hvS, hSc, hSm, -⟩ := Held.own_rd (l1 := []) h.pull5
  obtain ⟨RA0, Rc, hvR, hRc, hRm, -⟩ := Held.own_rd (l1 := []) h.pull6
  obtain ⟨BA, Bc, rfl, hBc, hBm⟩ := Held.form (l1 := []) h.pull7
  rw [natRow_len] at hvS hSc
  rw [hrs] at hvR hRc
  subst hvS hvR
  obtain ⟨bl, hbl⟩ : ∃ bl, bl = rec.length := ⟨_, rfl⟩
  have HBL := hid hbl
  have HRS := hid hrs
  have hnk := hr.cnt
  rw [← hbl] at h hBc hlen hlen2 ⊢
  have HNX := hid (rnext_held h.pull4 (by omega))
  have HR := hid hr
  obtain ⟨m, hm⟩ : ∃ m, m = 1 + n := ⟨_, rfl⟩
  rw [← hm] at HNX
  have HFR := hid (fun w1 B1 (g1 : Held w0 w1 (rBytes (.slice BA bl Bc) rec :: B1)) => rframed_long (k := m) g1 HBL.out (by omega) hlen hlen2)
  have hnb : ((m : Int) == 9223372036854775807) = false := by rw [beq_eq_false_iff_ne]; omega
  clear h hr hbl hrs hlen hlen2 hm hSc hSm hRc hRm hBc hBm
  go_enter Tryz.func53, Tryz.ntmps53
  go_wp2_with fail
  refine HNX.out.mono ?_
  rintro e w1 ⟨rfl, g1⟩
  have HF2 := hid (HFR.out _ _ g1.pull7)
  clear g1 HNX HFR
  go_wp2_with fail
  refine HF2.out.mono ?_
  rintro e w2 ⟨rfl, g2⟩
  have G2 := hid g2
  clear g2 HF2
  go_wp2_with fail
  go_ret2
  exact ⟨rfl, G2.out.pull7.pull7.pull3.pull7.pull7.pull7.pull7⟩

set_option maxRecDepth 100000 in
theorem rfile_any {N sp f : Nat} {A : Option Addr} {c : Nat} (h : Held w0 w (rBlk y 97 (rdCells sp vL vH) :: rAl vL al :: rBig bytesLoc ps :: rBlk g 106 (rlCells y (.slice A N c) vR f) :: rOwn 3 (.slice A N c) (natRow sl) :: B)) (ha : ActsOk ps al) (hN : N = sl.length) (hm : N ≤ 1000) (hk : ∀ j ∈ sl, 1 ≤ j ∧ j < 100) :
    Calls Tryz.prog 92 #[.pointer (some ⟨g, 0, none⟩)] w fun e w' => ∃ s z ps', e = .returned (.tuple #[sv s, .int .i64 z]) ∧ ((z = -1 ∧ sl = []) ∨ ∃ ls j, sl = ls ++ [j] ∧ s = nameB j ∧ z = (total al s : Nat)) ∧ (∀ q ∈ ps, q ∈ ps') ∧
      Held w0 w' (rBlk y 97 (rdCells sp vL vH) :: rAl vL al :: rBig bytesLoc ps' :: rBlk g 106 (rlCells y (.slice A N c) vR f) :: rOwn 3 (.slice A N c) (natRow sl) :: B) := by
  rcases List.eq_nil_or_concat sl with rfl | ⟨ls, j, rfl⟩
  · subst hN
    refine (rfile_none h.pull3).mono ?_
    rintro e w' ⟨rfl, rfl⟩
    exact ⟨[], -1, ps, rfl, .inl ⟨rfl, rfl⟩, fun q h => h, h⟩
  · rw [List.concat_eq_append] at *
    obtain ⟨h1, h2⟩ := hk j (by simp)
    refine (rfile_some (m := ls.length) h ha (by rw [hN, List.length_append]; rfl) rfl (by rw [hN, List.length_append] at hm; omega) h1 h2).mono ?_
    rintro e w' ⟨ps', rfl, hs, g1⟩
    exact ⟨_, _, ps', rfl, .inr ⟨ls, j, rfl, rfl, rfl⟩, hs, g1⟩

set_option maxRecDepth 100000 in
set_option maxHeartbeats 4000000 in
theorem rappend_held (h : Held w0 w (rBlk y 97 (rdCells 16777216 vL vH) :: rAl vL al :: rBig bytesLoc ps :: rFl vH hs :: rBlk g 106 (rlCells y vS vR 1) :: rOwn 3 vS (natRow sl) :: rOwn 87 vR rs :: rBytes vB rec :: B)) (hr : RefOk ps al hs sl n k) (hk : k < 60) (hrs : rs.length = n) (hlen : rec.length ≤ 65535) :
    Calls Tryz.prog 53 #[.pointer (some ⟨g, 0, none⟩), vB] w fun e w' => e = .returned (.tuple #[.int .i64 ((1 + n : Nat) : Int), .int .i64 0]) ∧ Appended w0 (rBytes vB rec :: B) y g n k ps w' := by
  obtain ⟨SA, Sc, hvS, hSc, hSm, -⟩ := Held.own_rd (l1 := []) h.pull5
  obtain ⟨RA0, Rc, hvR, hRc, hRm, -⟩ := Held.own_rd (l1 := []) h.pull6
  obtain ⟨BA, Bc, rfl, hBc, hBm⟩ := Held.form (l1 := []) h.pull7
  rw [natRow_len] at hvS hSc
  rw [hrs] at hvR hRc
  subst hvS hvR
  obtain ⟨bl, hbl⟩ : ∃ bl, bl = rec.length := ⟨_, rfl⟩
  have HBL := hid hbl
  have HRS := hid hrs
  have hnk := hr.cnt
  obtain ⟨N, hN⟩ : ∃ N, N = sl.length := ⟨_, rfl⟩
  have HNS := hid hN
  have hNn := hr.slen
  rw [← hN] at h hSc hNn
  rw [← hbl] at h hBc hlen ⊢
  have HNX := hid (rnext_held h.pull4 (by omega))
  have HR := hid hr
  obtain ⟨m, hm⟩ : ∃ m, m = 1 + n := ⟨_, rfl⟩
  have HMN := hid hm
  rw [← hm] at HNX ⊢
  have HFR := hid (fun w1 B1 (g1 : Held w0 w1 (rBytes (.slice BA bl Bc) rec :: B1)) => rframed_held (k := m) g1 HBL.out (by omega) hlen)
  have hnb : ((m : Int) == 9223372036854775807) = false := by rw [beq_eq_false_iff_ne]; omega
  have HNN := hid (fun w => rname_any w m (by omega) (by omega))
  have HBB := hid hlen
  unfold sv at HNN
  clear h hr hbl hrs hlen hN hm hSc hSm hRc hRm hBc hBm
  go_enter Tryz.func53, Tryz.ntmps53
  go_wp2_with fail
  refine HNX.out.mono ?_
  rintro e w1 ⟨rfl, g1⟩
  have HF2 := hid (HFR.out _ _ g1.pull7)
  clear g1 HNX HFR
  go_wp2_with fail
  refine HF2.out.mono ?_
  rintro e w2 ⟨v2, r, rfl, hrl, g2⟩
  obtain ⟨A2, c2, rfl, -, -⟩ := Held.form (l1 := []) g2
  have HRL := hid hrl
  have HFI := hid (rfile_any g2.pull7.pull3.pull6.pull6.pull6 HR.out.acts HNS.out (by omega) (fun j hj => by have := HR.out.each j hj; omega))
  obtain ⟨rl, hrl2⟩ : ∃ rl, rl = r.length := ⟨_, rfl⟩
  have HRL2 := hid hrl2
  rw [← hrl2] at HFI HRL ⊢
  clear g2 hrl HF2 hrl2
  go_wp2_with fail
  refine HFI.out.mono ?_
  rintro e w3 ⟨s, z, ps1, rfl, hz, hsub, g3⟩
  have G3 := hid g3.pull6.pull6.pull7.pull5.pull5.pull5
  have HS1 := hid hsub
  have HZ := hid hz
  clear g3 hsub HFI hz
  unfold sv
  go_upto_region 8 with (fail)
  go_cut [11] (fun f wx => f = .bool (decide (z < 0) || decide (4096 ≤ z)) ∧ wx = w3)
  case first =>
    by_cases hz1 : z < 0
    · go_wp2_with fail
      go_meet
      case rel => exact ⟨by simp [hz1], rfl⟩
    · by_cases hz2 : 4096 ≤ z
      · go_wp2_with fail
        go_meet
        case rel => exact ⟨by simp [hz2], rfl⟩
      · go_wp2_with fail
        go_meet
        case rel => exact ⟨by simp [hz1, hz2], rfl⟩
  case rest =>
    obtain ⟨rfl, rfl⟩ := hcut
    obtain ⟨F, hF⟩ : ∃ F, F = (decide (z < 0) || decide (4096 ≤ z)) := ⟨_, rfl⟩
    have HFF := hid hF
    rw [← hF]
    have c0 : wc.cell? ⟨g, 0, none⟩ = some (.pointer (some ⟨y, 0, none⟩)) := G3.out.pull6.blk0.cell (i := 0) rfl
    clear hF
    go_upto_region 9 with (fail)
    go_cut [12, 42] (fun _ b wx => b = .bool (F && decide (0 ≤ z)) ∧ wx = wc)
    case first =>
      cases F with
      | false =>
        go_wp2_with fail
        go_meet
        case rel => exact ⟨rfl, rfl⟩
      | true =>
        go_wp2_with fail
        go_meet
        case rel => exact ⟨rfl, rfl⟩
    case rest =>
      obtain ⟨rfl, rfl⟩ := hcut
      obtain ⟨sy, hsy⟩ : ∃ sy, sy = (F && decide (0 ≤ z)) := ⟨_, rfl⟩
      have HSY := hid hsy
      rw [← hsy]
      clear hsy
      go_upto_if 42 with (fail)
      go_cut [12] (fun _ wx => ∃ vH1 al1 ps2 hs1, (∀ q ∈ ps1, q ∈ ps2) ∧ ActsOk ps2 al1 ∧ (∀ m, holdOf hs1 m = total al1 m) ∧ heldSum hs1 ≤ heldSum hs ∧ hs1.length ≤ hs.length + 1 ∧ al1.length = al.length ∧ (∀ m, total al1 m = total al m) ∧ Held w0 wx (rBlk y 97 (rdCells 16777216 vL vH1) :: rAl vL al1 :: rBig bytesLoc ps2 :: rFl vH1 hs1 :: rBytes (.slice A2 rl c2) r :: rBytes (.slice BA bl Bc) rec :: rBlk g 106 (rlCells y (.slice SA N Sc) (.slice RA0 n Rc) 1) :: rOwn 3 (.slice SA N Sc) (natRow sl) :: rOwn 87 (.slice RA0 n Rc) rs :: B))
      case first =>
        cases sy with
        | false =>
          go_wp2_with fail
          go_meet
          case rel => exact ⟨vH, al, ps1, hs, fun q h => h, HR.out.acts.up HS1.out, HR.out.hold, Nat.le_refl _, Nat.le_succ _, rfl, fun _ => rfl, G3.out⟩
        | true =>
          have hz4 : 4096 ≤ z := by
            have h1 := HSY.out
            rw [HFF.out] at h1
            simp only [Bool.true_eq, Bool.and_eq_true, Bool.or_eq_true, decide_eq_true_eq] at h1
            omega
          have hsy2 : Disk.may s = true ∧ 0 < total al s := by
            rcases HZ.out with ⟨h1, -⟩ | ⟨ls, j, h1, h2, h3⟩
            · omega
            · have := HR.out.each j (by rw [h1]; simp)
              exact ⟨by rw [h2]; exact Slog.may_name (by omega), by omega⟩
          have HSN := hid (rsync_held G3.out (HR.out.acts.up HS1.out) s hsy2.1 (by have := HR.out.hlen; omega) hsy2.2)
          unfold sv at HSN
          clear hz4 hsy2
          go_wp2_with fail
          refine HSN.out.mono ?_
          rintro e w4 ⟨vH', ps2, hs1, rfl, hcn, hs2, g4⟩
          have G4 := hid g4
          have HSD := hid (And.intro hs2 ((HR.out.up HS1.out).synced hcn))
          clear g4 hcn hs2 HSN
          go_wp2_with fail
          go_meet
          case rel => exact ⟨vH', _, ps2, hs1, HSD.out.1, HSD.out.2.1.up HSD.out.1, HSD.out.2.2.1, HSD.out.2.2.2.1, HSD.out.2.2.2.2, List.length_map .., fun m => total_marked al s m, G4.out⟩
      case rest =>
        obtain ⟨vH1, al1, ps2, hs1, hsub2, ha1, hh1, hsm, hln, hal, htt, g4⟩ := hcut
        have G4 := hid g4
        have HP := hid (And.intro hsub2 (And.intro ha1 (And.intro hh1 (And.intro hsm (And.intro hln (And.intro hal htt))))))
        clear g4 hsub2 ha1 hh1 hsm hln hal htt c0
        go_upto_if 52 with (fail)
        go_cut [9] (fun nv wx => ∃ s1, nv = .string ⟨s1.toArray⟩ ∧ (F = true ∧ s1 = nameB m ∨ F = false ∧ s1 = s) ∧ Held w0 wx (rBlk y 97 (rdCells 16777216 vL vH1) :: rAl vL al1 :: rBig bytesLoc ps2 :: rFl vH1 hs1 :: rBytes (.slice A2 rl c2) r :: rBytes (.slice BA bl Bc) rec :: rBlk g 106 (rlCells y (.slice SA N Sc) (.slice RA0 n Rc) 1) :: rOwn 3 (.slice SA N Sc) (natRow sl) :: rOwn 87 (.slice RA0 n Rc) rs :: B))
        case first =>
          cases F with
          | false =>
            go_wp2_with fail
            go_meet
            case rel => exact ⟨s, rfl, .inr ⟨by trivial, rfl⟩, G4.out⟩
          | true =>
            have HNM := hid (HNN.out wc)
            go_wp2_with fail
            refine HNM.out.mono ?_
            rintro e w5 ⟨rfl, m5⟩
            have G5 := hid (G4.out.step m5)
            clear m5 HNM
            go_wp2_with fail
            go_meet
            case rel => exact ⟨nameB m, rfl, .inl ⟨by trivial, rfl⟩, G5.out⟩
        case rest =>
          obtain ⟨s1, rfl, hs1F, g5⟩ := hcut
          have hs1m : Disk.may s1 = true := by
            rcases hs1F with ⟨-, rfl⟩ | ⟨h1, rfl⟩
            · exact Slog.may_name (by have := HMN.out; omega)
            · rcases HZ.out with ⟨h2, -⟩ | ⟨ls, j, h2, h3, h4⟩
              · have := HFF.out
                rw [h1, h2] at this
                exact absurd this (by decide)
              · have := HR.out.each j (by rw [h2]; simp)
                rw [h3]
                exact Slog.may_name (by omega)
          have HW := hid (rwrite_held g5 HP.out.2.1 s1 hs1m (HP.out.2.2.1 s1) (by have := HP.out.2.2.2.2.1; have := HR.out.hlen; omega) (by have := HP.out.2.2.2.1; have := HR.out.sum; have := HRL2.out; have := HRL.out; have := HBB.out; omega) (by have := HP.out.2.2.2.2.2.1; have := HR.out.alen; omega))
          have c0 : wc.cell? ⟨g, 0, none⟩ = some (.pointer (some ⟨y, 0, none⟩)) := g5.pull6.blk0.cell (i := 0) rfl
          have HS1F := hid (And.intro hs1F hs1m)
          unfold sv at HW
          clear g5 hs1m hs1F G4 G3
          go_wp2_with fail
          refine HW.out.mono ?_
          rintro e w6 ⟨vL2, vH2, ps3, A3, c3, rfl, hsub3, hbag, g6⟩
          have G6 := hid g6
          have HB3 := hid (And.intro hsub3 hbag)
          rw [← HRL2.out] at HB3 G6
          obtain ⟨al2, hal2⟩ : ∃ al2, al2 = al1 ++ [⟨s1, total al1 s1, A3, rl, c3, false⟩] := ⟨_, rfl⟩
          obtain ⟨hs2, hhs2⟩ : ∃ hs2, hs2 = fput hs1 ⟨s1, none, 0, 0, total al1 s1 + rl⟩ := ⟨_, rfl⟩
          rw [← hal2, ← hhs2] at G6
          have HAL2 := hid hal2
          have HHS2 := hid hhs2
          clear g6 hsub3 hbag HW c0 hal2 hhs2
          go_upto_if 65 with (fail)
          go_cut [] (fun wx => ∃ vS' sl', (F = true ∧ sl' = sl ++ [m] ∨ F = false ∧ sl' = sl) ∧ Held w0 wx (rBlk y 97 (rdCells 16777216 vL2 vH2) :: rAl vL2 al2 :: rBig bytesLoc ps3 :: rFl vH2 hs2 :: rBytes (.slice A2 rl c2) r :: rBytes (.slice BA bl Bc) rec :: rBlk g 106 (rlCells y vS' (.slice RA0 n Rc) 1) :: rOwn 3 vS' (natRow sl') :: rOwn 87 (.slice RA0 n Rc) rs :: B))
          case first =>
            cases F with
            | false =>
              go_wp2_with fail
              go_meet
              case rel => exact ⟨_, sl, .inr ⟨by trivial, rfl⟩, G6.out⟩
            | true =>
              have x1 : w6.cell? ⟨g, 1, none⟩ = some (.slice SA N Sc) := G6.out.pull6.blk0.cell (i := 1) rfl
              have HB := hid (Blk.new w6 3 #[.int .i64 m])
              have G7 := hid ((G6.out.pull7).alloc (.cells #[.int .i64 m] 3))
              go_wp2_with (at_builtin; refine wpl_int rfl _ _ rfl _ (natRow sl) rfl G7.out w6.heap.size 1 m rfl ⟨by decide, by decide⟩ (HB.out.cell (i := 0) rfl) N (by rw [natRow_len, ← HNS.out]) (by omega) ?c1)
              case c1 =>
                intro A7 c7 w7 g7
                have f1 := g7.pull7.blk0.frozen 1
                have x2 : w7.cell? ⟨g, 1, none⟩ = some (.slice SA N Sc) := g7.pull7.blk0.cell (i := 1) rfl
                have g8 := Held.store (l1 := []) g7.pull7 1 (.slice A7 (N + 1) c7)
                have G8 := hid (show Held w0 (w7.setCell ⟨g, 1, none⟩ (.slice A7 (N + 1) c7)) (rBlk g 106 (rlCells y (.slice A7 (N + 1) c7) (.slice RA0 n Rc) 1) :: _) from g8)
                clear g7 g8 G7 HB
                go_wp2_with fail
                go_meet
                case rel => exact ⟨_, sl ++ [m], .inl ⟨by trivial, rfl⟩, by rw [natRow_snoc]; exact G8.out.pull7.pull7.pull7.pull7.pull7.pull7⟩
          case rest =>
            obtain ⟨vS', sl', hsl, g7⟩ := hcut
            have h1n : m = n + 1 := by have := HMN.out; omega
            have HREF := hid (RefOk.wrote (ps' := ps3) (sl' := sl') (s := s1) (A := A3) (bl := rl) (c := c3) ((HR.out.up HS1.out).up HP.out.1) (by omega) HP.out.2.1 HP.out.2.2.1 HP.out.2.2.2.1 HP.out.2.2.2.2.1 HP.out.2.2.2.2.2.1 HB3.out.1 HB3.out.2 (by have := HRL.out; have := HBB.out; omega) (fun j hj => by
              rcases hsl with ⟨-, rfl⟩ | ⟨-, rfl⟩
              · rcases List.mem_append.1 hj with hj | hj
                · have := HR.out.each j hj; omega
                · rw [List.mem_singleton] at hj; omega
              · have := HR.out.each j hj; omega) (fun ls j e => by
              rcases hsl with ⟨h1, rfl⟩ | ⟨h1, rfl⟩
              · have he := (List.append_inj' e rfl).2
                injection he with he
                rcases HS1F.out.1 with ⟨-, h2⟩ | ⟨h2, -⟩
                · rw [h2, ← he]
                · rw [h1] at h2; cases h2
              · rcases HZ.out with ⟨-, h3⟩ | ⟨ls2, j2, h3, h4, -⟩
                · rw [h3] at e; simp at e
                · rw [h3] at e
                  have he := (List.append_inj' e rfl).2
                  injection he with he
                  rcases HS1F.out.1 with ⟨h2, -⟩ | ⟨-, h2⟩
                  · rw [h1] at h2; cases h2
                  · rw [h2, h4, he]) (by
              rcases hsl with ⟨-, rfl⟩ | ⟨-, rfl⟩
              · rw [List.length_append, List.length_singleton, ← HNS.out]; omega
              · rw [← HNS.out]; omega))
            rw [← HAL2.out, ← HHS2.out] at HREF
            clear hsl h1n
            have t1 : wc.cell? ⟨g, 2, none⟩ = some (.slice RA0 n Rc) := g7.pull6.blk0.cell (i := 2) rfl
            have G7 := hid g7
            have HX0 := hid (show Held w0 ((wc.alloc (.cells #[] 5)).drew) (rBytes (.slice (some ⟨wc.heap.size, 0, none⟩) 0 0) [] :: _) from (G7.out.built [] (by decide)).drew)
            have HR2 := hid (fun w4 (m : Mod (fun _ => False) wc w4) => show Rd (fun _ => True) w4 (.slice BA bl Bc) (bytesV rec) from by rw [HBL.out]; exact Held.bytes (l1 := []) (by have := (G7.out.step m).pull5; rw [HBL.out] at this; exact this))
            have t1b : ((wc.alloc (.cells #[] 5)).drew).cell? ⟨g, 2, none⟩ = some (.slice RA0 n Rc) := HX0.out.pull7.blk0.cell (i := 2) rfl
            have hbl9 : bl ≤ 1000000000000 := by have := HBB.out; omega
            have HB9 := hid hbl9
            clear g7 hbl9
            go_upto_region 20 with (fail)
            go_cut [] (fun wx => ∃ vR' rs', rs'.length = n + 1 ∧ Held w0 wx (rBlk y 97 (rdCells 16777216 vL2 vH2) :: rAl vL2 al2 :: rBig bytesLoc ps3 :: rFl vH2 hs2 :: rBlk g 106 (rlCells y vS' vR' 1) :: rOwn 3 vS' (natRow sl') :: rOwn 87 vR' rs' :: rBytes (.slice BA bl Bc) rec :: B))
            case first =>
              go_region_law (first
                | (refine step_app rfl _ _ rfl _ rfl HX0.out (fun _ => True) _ rec bl HBL.out rfl (HR2.out _ (by repeat (first | exact Mod.refl _ _ | refine Mod.alloc ?_ _ | refine Mod.drew ?_))) HB9.out ?_; intro A' c' w4 g4; have u1 := g4.pull7.blk0.cell (i := 2) rfl; have u2 := (g4.alloc (.cells #[.slice A' bl c'] 87)).pull7.blk0.cell (i := 2) rfl; have G8 := hid g4; clear g4)
                | (refine step_rec rfl _ _ rfl _ rs rfl (G8.out.pull9.step (by repeat (first | exact Mod.refl _ _ | refine Mod.alloc ?_ _ | refine Mod.drew ?_))) w4.heap.size 1 A' bl c' rfl ⟨by decide, by decide⟩ ((Blk.new w4 87 #[.slice A' bl c']).cell (i := 0) rfl) n HRS.out (by omega) ?_; intro A4 c4 w5 g5; have v1 := g5.pull8.blk0.cell (i := 2) rfl; have f1 := g5.pull8.blk0.frozen 2; have G9 := hid g5; clear g5))
              all_goals
                have G10 := hid (show Held w0 (w5.setCell ⟨g, 2, none⟩ (.slice A4 (n + 1) c4)) (rBlk g 106 (rlCells y vS' (.slice A4 (n + 1) c4) 1) :: _) from Held.store (l1 := []) G9.out.pull8 2 (.slice A4 (n + 1) c4))
              all_goals
                have G11 := hid (G10.out.pull7.drop0.pull2.drop0).pull6.pull2.pull7.pull3.pull7.pull7.pull7.pull7
              all_goals (go_wp2_with fail)
              all_goals go_meet
              all_goals
                case rel => exact ⟨.slice A4 (n + 1) c4, rs ++ [.slice A' bl c'], by rw [List.length_append, List.length_singleton, HRS.out], G11.out⟩
            case rest =>
              obtain ⟨vR', rs', hrs', g10⟩ := hcut
              have G10 := hid (And.intro hrs' g10)
              clear hrs' g10 G7 HX0 HR2 t1 t1b
              go_wp2_with fail
              go_ret2
              exact ⟨rfl, vL2, vH2, vS', vR', al2, ps3, hs2, sl', rs', fun q hq => HB3.out.1 q (HP.out.1 q (HS1.out q hq)), HREF.out, G10.out.1, G10.out.2⟩
end
end Go.Proofs.YtdbhccehbjhbpaaGreatDoor
